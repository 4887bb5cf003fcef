/-
 The engine,part F: a range over a function.
-/
import Derived.Test.YtmmneeomcefgbaaGreatDoorEngA
import Derived.Great.BuildSlice
import Derived.Laws.AppendOwn
import Derived.Deep.AppendSrc
import Derived.Deep.Upon
import Derived.Laws.Slices
import Derived.Lib.MinMax
import Derived.Laws.Externs
namespace Pk
open Go
structure Agr (S : Nat → Prop) (w w' : World) : Prop where
 os : w'.os = w.os
 tape : w'.tape = w.tape
 out : w'.output = w.output
 size : w.heap.size ≤ w'.heap.size
 blk : ∀ b,b < w.heap.size → S b → w'.heap[b]? = w.heap[b]?
theorem Agr.refl (S : Nat → Prop) (w : World) : Agr S w w := ⟨rfl,rfl,rfl,Nat.le_refl _,fun _ _ _ => rfl⟩
theorem Agr.trans {S : Nat → Prop} {a b c : World} (h : Agr S a b) (k : Agr S b c) : Agr S a c :=
 ⟨k.os.trans h.os,k.tape.trans h.tape,k.out.trans h.out,Nat.le_trans h.size k.size,fun i hi hs => (k.blk i (Nat.lt_of_lt_of_le hi h.size) hs).trans (h.blk i hi hs)⟩
theorem Agr.weaken {S S' : Nat → Prop} {a b : World} (h : Agr S a b) (hs : ∀ i,S' i → S i) : Agr S' a b := ⟨h.os,h.tape,h.out,h.size,fun i hi hn => h.blk i hi (hs i hn)⟩
theorem Ext.agr {S : Nat → Prop} {a b : World} (h : Ext a b) : Agr S a b := ⟨h.os,h.tape,h.out,h.size,fun i hi _ => h.blk i hi⟩
theorem Mod.agr {S S' : Nat → Prop} {a b : World} (h : Mod S a b) (hs : ∀ i,S' i → ¬ S i) : Agr S' a b := ⟨h.os,h.tape,h.out,h.size,fun i hi hn => h.blk i hi (hs i hn)⟩
theorem Agr.obj {S : Nat → Prop} {w w' : World} (h : Agr S w w') {b : Nat} {o : Obj} (hb : w.heap[b]? = some o) (hs : S b) : w'.heap[b]? = some o := by
 rw [h.blk b (Array.getElem?_eq_some_iff.1 hb).1 hs,hb]
theorem Agr.cell {S : Nat → Prop} {w w' : World} (h : Agr S w w') {a : Addr} {v : Value} (ha : w.cell? a = some v) (hs : S a.block) : w'.cell? a = some v := by
 have hb := World.block_lt_of_cell? _ _ ha
 rw [← ha]
 unfold World.cell?
 rw [h.blk _ hb hs]
theorem Agr.putObj {S : Nat → Prop} {w : World} {r : Nat} (o : Obj) (hr : ¬ S r) : Agr S w (w.putObj r o) :=
 ⟨rfl,rfl,rfl,by simp,fun b _ hs => World.putObj_heap_other (fun e => hr (e ▸ hs))⟩
theorem Mod.putObj {w : World} (r : Nat) (o : Obj) : Mod (· = r) w (w.putObj r o) := ⟨rfl,rfl,rfl,by simp,fun _ _ hs => World.putObj_heap_other hs⟩
structure Own (C C' : Nat → Prop) (w w' : World) : Prop where
 mod : Mod C w w'
 own : ∀ k,C' k → C k ∨ w.heap.size ≤ k
 lt : ∀ k,C' k → C k ∨ k < w'.heap.size
theorem Own.of_mod {C : Nat → Prop} {w w' : World} (h : Mod C w w') : Own C C w w' := ⟨h,fun _ h => .inl h,fun _ h => .inl h⟩
def Iter {α : Type} (P : Program) (g : Value) (enc : α → List Value) (S Sp : List α → Prop) (Cap : Nat → Prop) (w : World) : Prop :=
 ∀ (y : Value) (C0 : Nat → Prop) (J Jx : (Nat → Prop) → List α → World → Prop) (W : World), Agr (fun k => k < w.heap.size) w W → (∀ k, Cap k → k < w.heap.size ∧ ¬ C0 k) → (∀ k, C0 k → k < W.heap.size) →
  (∀ C pre W1 W2,J C pre W1 → Agr (fun k => k < W.heap.size ∨ C k) W1 W2 → J C pre W2) →
  (∀ C pre W1 W2,Jx C pre W1 → Agr (fun k => k < W.heap.size ∨ C k) W1 W2 → Jx C pre W2) →
  (∀ C pre x W1, Sp (pre ++ [x]) → J C pre W1 → CV P y (enc x) W1 fun e W' =>
   (e = .returned (.bool true) ∧ ∃ C',J C' (pre ++ [x]) W' ∧ Own C C' W1 W') ∨ (e = .returned (.bool false) ∧ ∃ C',Jx C' (pre ++ [x]) W' ∧ Own C C' W1 W')) →
  J C0 [] W →
  CV P g [y] W fun e W' => (∃ v,e = .returned v) ∧ ∃ C',((∃ xs,S xs ∧ J C' xs W') ∨ (∃ pre,Sp pre ∧ Jx C' pre W'))
def QR {α : Type} (J : (Nat → Prop) → List α → World → Prop) (Jx : Code → (Nat → Prop) → List α → World → Prop) (C : Nat → Prop) (xs : List α) (W : World) : Post
 | .normal,_,ds,W' => ds = [] ∧ ∃ C',J C' xs W' ∧ Own C C' W W'
 | .ret,_,ds,W' => ds = [] ∧ ∃ C',Jx .ret C' xs W' ∧ Own C C' W W'
 | .exit id,_,ds,W' => ds = [] ∧ ∃ C',Jx (.exit id) C' xs W' ∧ Own C C' W W'
 | .goto l,_,ds,W' => ds = [] ∧ ∃ C',Jx (.goto l) C' xs W' ∧ Own C C' W W'
 | _,_,_,_ => False
section
variable {α : Type} (J : (Nat → Prop) → List α → World → Prop) (Jx : Code → (Nat → Prop) → List α → World → Prop) (C : Nat → Prop) (xs : List α) (W : World) (ρ : Env) (ds : List Deferred) (W' : World)
@[simp ↓] theorem QR_normal : QR J Jx C xs W .normal ρ ds W' = (ds = [] ∧ ∃ C',J C' xs W' ∧ Own C C' W W') := _root_.id rfl
@[simp ↓] theorem QR_ret : QR J Jx C xs W .ret ρ ds W' = (ds = [] ∧ ∃ C',Jx .ret C' xs W' ∧ Own C C' W W') := _root_.id rfl
@[simp ↓] theorem QR_exit (id : Nat) : QR J Jx C xs W (.exit id) ρ ds W' = (ds = [] ∧ ∃ C',Jx (.exit id) C' xs W' ∧ Own C C' W W') := _root_.id rfl
@[simp ↓] theorem QR_goto (l : Nat) : QR J Jx C xs W (.goto l) ρ ds W' = (ds = [] ∧ ∃ C',Jx (.goto l) C' xs W' ∧ Own C C' W W') := _root_.id rfl
end
def QC (Q : Post) : Code → Cont
 | .ret => Q .ret
 | .exit id => Q (.exit id)
 | .goto l => Q (.goto l)
 | _ => fun _ _ _ => False
@[simp] theorem QC_ret (Q : Post) : QC Q .ret = Q .ret := rfl
@[simp] theorem QC_exit (Q : Post) (id : Nat) : QC Q (.exit id) = Q (.exit id) := rfl
@[simp] theorem QC_goto (Q : Post) (l : Nat) : QC Q (.goto l) = Q (.goto l) := rfl
theorem QC_sound {P : Program} {n : Nat} {r : Option Nat} {Q : Post} {c : Code} {ρ : Env} {ds : List Deferred} {w : World} {tmps : Array Value} (hA : Ag n tmps ρ) (h : QC Q c ρ ds w) :
  c.wpIn (FR r) 0 P (fun e a w' => ∃ ρ',Ag n a.tmps ρ' ∧ Q e ρ' a.defers w') ⟨tmps,ds⟩ w := by
 cases c with
 | ret => exact wpIn_ret ⟨ρ,hA,h⟩
 | exit id => exact wpIn_exit ⟨ρ,hA,h⟩
 | goto l => exact wpIn_goto ⟨ρ,hA,h⟩
 | _ => exact h.elim
def setsE (ρ : Env) : List Tmp → List Value → Env
 | p :: ps,v :: vs => setsE (ρ.set p v) ps vs
 | _,_ => ρ
@[simp] theorem setsE_nil (ρ : Env) (vs : List Value) : setsE ρ [] vs = ρ := by cases vs <;> rfl
@[simp] theorem setsE_cons (ρ : Env) (p : Tmp) (ps : List Tmp) (v : Value) (vs : List Value) : setsE ρ (p :: ps) (v :: vs) = setsE (ρ.set p v) ps vs := rfl
theorem Ag.sets {n : Nat} : ∀ (ps : List Tmp) (vs : List Value) (tmps : Array Value) (ρ : Env), Ag n tmps ρ → (∀ p ∈ ps, p < n) → Ag n ((ps.zip vs).foldl (fun t (p, v) => t.setIfInBounds p v) tmps) (setsE ρ ps vs)
 | [],_,tmps,ρ,h,_ => by simpa using h
 | p :: ps,[],tmps,ρ,h,_ => by simpa [setsE] using h
 | p :: ps, v :: vs, tmps, ρ, h, hp => by
  simp only [List.zip_cons_cons,List.foldl_cons,setsE]
  refine Ag.sets ps vs _ _ ?_ (fun q hq => hp q (by simp [hq]))
  have := Ag.put (ds := []) (d := some p) h (by simpa [okD] using hp p (by simp)) v
  simpa [Act.put,Pk.put] using this
theorem WC_rangeFunc {α : Type} {P : Program} {n : Nat} {f : Operand} {ps : List Tmp} {assign body : Code} {Q : Post} {ρ : Env} {ds : List Deferred} {w : World}
  {enc : α → List Value} {S Sp : List α → Prop} {Cap : Nat → Prop} {gf : FuncId} {first caps : Array Value} (hgv : ev ρ f = .func (.func gf) first caps) (hent : ∀ as w,(callFunc gf as).run P w = .ok (.enter gf as) w)
  (hit : Iter P (.func (.func gf) first caps) enc S Sp Cap w) (henc : ∀ x,(enc x).length = ps.length)
  (C0 : Nat → Prop) (J : (Nat → Prop) → List α → World → Prop) (Jx : Code → (Nat → Prop) → List α → World → Prop)
  (hcap : ∀ k,Cap k → k < w.heap.size ∧ ¬ C0 k) (hC0 : ∀ k,C0 k → k < w.heap.size)
  (hJ : ∀ C pre W W',J C pre W → Agr (fun k => k < w.heap.size ∨ C k) W W' → J C pre W')
  (hJx : ∀ c C pre W W',Jx c C pre W → Agr (fun k => k < w.heap.size ∨ C k) W W' → Jx c C pre W')
  (h0 : J C0 [] w)
  (ρ₁ : α → Env)
  (hassign : ∀ l x W,vc P n (some l) assign (QS (fun ρ' ds' W' => ρ' = ρ₁ x ∧ ds' = [] ∧ W' = W) (fun _ _ _ _ => False)) (setsE ρ ps (enc x)) [] W)
  (hbody : ∀ l C pre x W,Sp (pre ++ [x]) → J C pre W → w.heap.size ≤ l → l < W.heap.size → ¬ C l → vc P n (some l) body (QR J Jx C (pre ++ [x]) W) (ρ₁ x) [] W)
  (hdone : ∀ C xs W,S xs → J C xs W → W.heap[w.heap.size]? = some (.deferred (some [])) → Q .normal ρ ({ target := .collected w.heap.size,args := #[] } :: ds) W)
  (hstop : ∀ c C pre W,Sp pre → Jx c C pre W → W.heap[w.heap.size]? = some (.deferred (some [])) → QC Q c ρ ({ target := .collected w.heap.size,args := #[] } :: ds) W) :
  WC P n none (.rangeFunc f ps.toArray assign body) Q ρ ds w := by
 intro hok tmps hA
 have hok1 := Bool.and_eq_true_iff.1 hok
 have hok2 := Bool.and_eq_true_iff.1 hok1.2
 have hok3 := Bool.and_eq_true_iff.1 hok2.2
 have hps : ∀ p ∈ ps,p < n := fun p hp => by simpa using List.all_eq_true.1 hok2.1 p hp
 refine wpIn_rangeFunc ?_
 intro fn _
 obtain ⟨rec,hrec⟩ : ∃ rec : LoopState → Option Code → Loop,rec = fun st pe => { state := st,pending := pe,fn,tmps := tmps,params := ps.toArray,assign,body,defers := w.heap.size } := ⟨_,rfl⟩
 obtain ⟨W1,hW1⟩ : ∃ W1,(w.alloc (.deferred (some []))).alloc (.loop (rec .ready none)) = W1 := ⟨_,rfl⟩
 have hs1 : W1.heap.size = w.heap.size + 2 := by rw [← hW1]; simp
 have hL1 : W1.heap[w.heap.size + 1]? = some (.loop (rec .ready none)) := by
  rw [← hW1]; have := World.alloc_heap_new (w.alloc (.deferred (some []))) (.loop (rec .ready none)); rwa [World.size_alloc] at this
 have hD1 : W1.heap[w.heap.size]? = some (.deferred (some [])) := by
  rw [← hW1]; exact (Go.RowKit.Below.heap_alloc _ _ _ (by simp)).trans (World.alloc_heap_new w _)
 have hx1 : Ext w W1 := by rw [← hW1]; exact ((Ext.refl w).alloc _).alloc _
 have hg : ev ρ f = (Act.mk tmps ds).eval f := (eval_eq hA hok1.1).symm
 let l := w.heap.size + 1
 let D := w.heap.size
 let J' : (Nat → Prop) → List α → World → Prop := fun C pre W => ∃ C1,J C1 pre W ∧ (∀ k,C k ↔ C1 k ∨ k = l) ∧ ¬ C1 l ∧ ¬ C1 D ∧ W.heap[l]? = some (.loop (rec .ready none)) ∧ W.heap[D]? = some (.deferred (some []))
 let Jx' : (Nat → Prop) → List α → World → Prop := fun C pre W => ∃ C1 c,Jx c C1 pre W ∧ (∀ k,C k ↔ C1 k ∨ k = l) ∧ ¬ C1 l ∧ W.heap[l]? = some (.loop (rec .done (some c))) ∧ W.heap[D]? = some (.deferred (some []))
 have hcall := hit (.func (.yield l) #[] #[]) (fun k => C0 k ∨ k = l) J' Jx' W1 hx1.agr
  (fun k hk => ⟨(hcap k hk).1,fun h => h.elim (hcap k hk).2 (fun e => by have := (hcap k hk).1; simp only [l] at e; omega)⟩)
  (fun k hk => by
   rcases hk with hk | hk
   ·have := hC0 k hk; omega
   ·simp only [l] at hk; omega) ?_ ?_ ?_ ?_
 case refine_1 =>
  rintro C pre Wa Wb ⟨C1,hj,hC,hl,hd,h1,h2⟩ hag
  refine ⟨C1,hJ _ _ _ _ hj (hag.weaken ?_),hC,hl,hd,hag.obj h1 (.inl (by simp only [l]; omega)),hag.obj h2 (.inl (by simp only [D]; omega))⟩
  rintro i (hi | hi)
  ·exact .inl (by omega)
  ·exact .inr ((hC i).2 (.inl hi))
 case refine_2 =>
  rintro C pre Wa Wb ⟨C1,c,hj,hC,hnl,h1,h2⟩ hag
  refine ⟨C1,c,hJx _ _ _ _ _ hj (hag.weaken ?_),hC,hnl,hag.obj h1 (.inl (by simp only [l]; omega)),hag.obj h2 (.inl (by simp only [D]; omega))⟩
  rintro i (hi | hi)
  ·exact .inl (by omega)
  ·exact .inr ((hC i).2 (.inl hi))
 case refine_3 =>
  rintro C pre x W hsp ⟨C1,hj,hC,hnl,hnd,hl,hd⟩
  have hlt : l < W.heap.size := (Array.getElem?_eq_some_iff.1 hl).1
  have hy := run_yield (P := P) (args := (enc x).toArray) hl (by rw [hrec]; simpa using henc x)
  rw [hrec] at hy
  show YD P l ([] ++ enc x) W _
  unfold YD
  rw [List.nil_append,hy]
  have hround : RoundIn (FR none) 0 P l fn ((ps.toArray.zip (enc x).toArray).foldl (fun tmps (t, a) => tmps.setIfInBounds t a) tmps) assign body W (fun e W' =>
    (e = .returned (.bool true) ∧ ∃ C',J' C' (pre ++ [x]) W' ∧ Own C C' W W') ∨ (e = .returned (.bool false) ∧ ∃ C',Jx' C' (pre ++ [x]) W' ∧ Own C C' W W')) := by
   refine roundIn_of_wpIn trivial ?_
   have hAx : Ag n ((ps.toArray.zip (enc x).toArray).foldl (fun tmps (t, a) => tmps.setIfInBounds t a) tmps) (setsE ρ ps (enc x)) := by
    have := Ag.sets ps (enc x) tmps ρ hA hps
    rw [← Array.foldl_toList]
    simpa using this
   refine wpIn_mono (vc_sound assign _ _ _ _ (hassign l x W) hok3.1 _ hAx) ?_
   rintro e a1 W' ⟨ρ',hA',hq⟩
   cases e with
   | normal =>
    obtain ⟨rfl,hds,rfl⟩ := hq
    obtain ⟨W2,hW2⟩ : ∃ W2,W2 = W'.putObj l (.loop { rec .ready none with state := .busy }) := ⟨_,rfl⟩
    refine ⟨W2,by rw [hW2]; exact run_beginRound hl (by rw [hrec]),?_⟩
    have hl2 : W2.heap[l]? = some (.loop { rec .ready none with state := .busy }) := by rw [hW2]; exact World.putObj_heap_same hlt
    have hd2 : W2.heap[D]? = some (.deferred (some [])) := by rw [hW2]; exact (World.putObj_heap_other (by simp only [l,D]; omega)).trans hd
    have hj2 : J C1 pre W2 := hJ _ _ _ _ hj (by
     rw [hW2]
     refine Agr.putObj _ ?_
     rintro (h | h)
     ·simp only [l] at h; omega
     ·exact hnl h)
    have hm2 : Mod (· = l) W' W2 := by rw [hW2]; exact Mod.putObj _ _
    have hs2 : W2.heap.size = W'.heap.size := by rw [hW2]; simp
    have hb := hbody l C1 pre x W2 hsp hj2 (by simp only [l]; omega) (by rw [hs2]; exact hlt) hnl
    have hwp := vc_sound body _ _ _ _ hb hok3.2 _ hA'
    have ha1 : a1 = ⟨a1.tmps,[]⟩ := by cases a1; simp_all
    rw [ha1]
    refine wpIn_mono hwp ?_
    rintro e a3 W3 ⟨ρ3,hA3,hq3⟩
    have fin : ∀ (jump : Option Code) (C' : Nat → Prop), Own C1 C' W2 W3 →
      ∃ W4, (Instr.endRound l jump).run P W3 = .ok (.bool jump.isNone) W4 ∧ W4 = W3.putObj l (.loop (rec (if jump.isNone then .ready else .done) jump)) ∧ W4.heap[l]? = some (.loop (rec (if jump.isNone then .ready else .done) jump)) ∧
       W4.heap[D]? = some (.deferred (some [])) ∧ ¬ C' l ∧ ¬ C' D ∧ Own C (fun k => C' k ∨ k = l) W' W4 := by
     intro jump C' hown
     have hl3 : W3.heap[l]? = some (.loop { rec .ready none with state := .busy }) := hown.mod.obj hl2 hnl
     have hd3 : W3.heap[D]? = some (.deferred (some [])) := hown.mod.obj hd2 hnd
     have hlt3 : l < W3.heap.size := (Array.getElem?_eq_some_iff.1 hl3).1
     have hr := run_endRound (P := P) jump hl3
     have hDl : D < W2.heap.size := (Array.getElem?_eq_some_iff.1 hd2).1
     refine ⟨W3.putObj l (.loop (rec (if jump.isNone then .ready else .done) jump)), ?_, rfl, World.putObj_heap_same hlt3, (World.putObj_heap_other (by simp only [l, D]; omega)).trans hd3, ?_, ?_, ?_⟩
     ·rw [hr,hrec]
     ·intro h; rcases hown.own _ h with h | h
      ·exact hnl h
      ·omega
     ·intro h; rcases hown.own _ h with h | h
      ·exact hnd h
      ·omega
     ·refine ⟨?_, ?_, ?_⟩
      ·have m1 : Mod C W' W2 := hm2.weaken (fun i e => (hC i).2 (.inr e))
       have m2 : Mod C W2 W3 := hown.mod.weaken (fun i h => (hC i).2 (.inl h))
       exact (m1.trans m2).trans ((Mod.putObj _ _).weaken (fun i e => (hC i).2 (.inr e)))
      ·rintro k (h | h)
       ·rcases hown.own k h with h | h
        ·exact .inl ((hC k).2 (.inl h))
        ·exact .inr (by omega)
       ·exact .inl ((hC k).2 (.inr h))
      ·rintro k (h | h)
       ·rcases hown.lt k h with h | h
        ·exact .inl ((hC k).2 (.inl h))
        ·exact .inr (by simpa using h)
       ·exact .inl ((hC k).2 (.inr h))
    have stab : ∀ (C' : Nat → Prop) (W4 : World) (o : Obj), W4 = W3.putObj l o → ¬ C' l → Agr (fun k => k < w.heap.size ∨ C' k) W3 W4 := by
     intro C' W4 o e hn
     rw [e]
     refine Agr.putObj _ ?_
     rintro (h | h)
     ·simp only [l] at h; omega
     ·exact hn h
    cases e with
    | normal =>
     obtain ⟨-,C',hj3,hown⟩ := hq3
     obtain ⟨W4,hr,e4,hl4,hd4,hn1,hn2,ho⟩ := fin none C' hown
     exact ⟨_,W4,hr,.inl ⟨rfl,_,⟨C',hJ _ _ _ _ hj3 (stab C' W4 _ e4 hn1),fun k => Iff.rfl,hn1,hn2,hl4,hd4⟩,ho⟩⟩
    | ret =>
     obtain ⟨-,C',hj3,hown⟩ := hq3
     obtain ⟨W4,hr,e4,hl4,hd4,hn1,hn2,ho⟩ := fin (some .ret) C' hown
     exact ⟨_,W4,hr,.inr ⟨rfl,_,⟨C',.ret,hJx _ _ _ _ _ hj3 (stab C' W4 _ e4 hn1),fun k => Iff.rfl,hn1,hl4,hd4⟩,ho⟩⟩
    | exit id =>
     obtain ⟨-,C',hj3,hown⟩ := hq3
     obtain ⟨W4,hr,e4,hl4,hd4,hn1,hn2,ho⟩ := fin (some (.exit id)) C' hown
     exact ⟨_,W4,hr,.inr ⟨rfl,_,⟨C',.exit id,hJx _ _ _ _ _ hj3 (stab C' W4 _ e4 hn1),fun k => Iff.rfl,hn1,hl4,hd4⟩,ho⟩⟩
    | goto t =>
     obtain ⟨-,C',hj3,hown⟩ := hq3
     obtain ⟨W4,hr,e4,hl4,hd4,hn1,hn2,ho⟩ := fin (some (.goto t)) C' hown
     exact ⟨_,W4,hr,.inr ⟨rfl,_,⟨C',.goto t,hJx _ _ _ _ _ hj3 (stab C' W4 _ e4 hn1),fun k => Iff.rfl,hn1,hl4,hd4⟩,ho⟩⟩
    | panic ch => exact hq3.elim
    | outgrown => exact hq3.elim
   | _ => exact hq.elim
  exact hround
 case refine_4 =>
  refine ⟨C0, hJ _ _ _ _ h0 hx1.agr, fun k => Iff.rfl, ?_, ?_, hL1, hD1⟩
  ·intro h; have := hC0 _ h; simp only [l] at this; omega
  ·intro h; have := hC0 _ h; simp only [D] at this; omega
 have fin : ∀ e W', ((∃ v, e = .returned v) ∧ ∃ C', ((∃ xs, S xs ∧ J' C' xs W') ∨ (∃ pre, Sp pre ∧ Jx' C' pre W'))) →
   rangePost (FR none) 0 P l (fun e a w' => ∃ ρ',Ag n a.tmps ρ' ∧ Q e ρ' a.defers w') ⟨tmps,{ target := .collected D,args := #[] } :: ds⟩ e W' := by
  rintro e W' ⟨⟨v, rfl⟩, C', (⟨xs, hS, C1, hj, -, hn1, hn2, hl, hd⟩ | ⟨pre, hS, C1, c, hj, -, hn1, hl, hd⟩)⟩
  ·have hr := run_endLoop (P := P) hl (by rw [hrec]; simp)
   rw [hrec] at hr
   refine ⟨none,_,hr,ρ,hA,hdone C1 xs _ hS (hJ _ _ _ _ hj (Agr.putObj _ ?_)) ((World.putObj_heap_other (by simp only [l]; omega)).trans hd)⟩
   rintro (h | h)
   ·simp only [l] at h; omega
   ·exact hn1 h
  ·have hr := run_endLoop (P := P) hl (by rw [hrec]; simp)
   rw [hrec] at hr
   refine ⟨some c,_,hr,QC_sound hA (hstop c C1 pre _ hS (hJx _ _ _ _ _ hj (Agr.putObj _ ?_)) ((World.putObj_heap_other (by simp only [l]; omega)).trans hd))⟩
   rintro (h | h)
   ·simp only [l] at h; omega
   ·exact hn1 h
 have hcall' : FN P gf (first.toList ++ ([.func (.yield l) #[] #[]] ++ caps.toList)) W1 _ := hcall
 unfold FN at hcall'
 rw [hent] at hcall'
 refine ⟨l, [{ target := .collected D, args := #[] }], W1, { target := .fn (.func gf) caps, args := first ++ #[Value.func (.yield l) #[] #[]] }, W1, gf, (first.toList ++ ([Value.func (.yield l) #[] #[]] ++ caps.toList)).toArray, W1, ?_, ?_, fun _ _ => trivial, ?_, fun h => by simp [FR] at h, ?_⟩
 ·rw [← hW1,hrec]; exact run_enterLoop_outer _ _ _ _ _
 ·have : (Act.mk tmps ds).eval f = .func (.func gf) first caps := hg.symm.trans hgv
  simp only [resolve,this,Deferred.ofValue]
  simp [Act.eval]
 ·have e0 : (first ++ #[Value.func (.yield l) #[] #[]] ++ caps) = (first.toList ++ ([Value.func (.yield l) #[] #[]] ++ caps.toList)).toArray := by apply Array.ext'; simp
  simp only [invoke]
  rw [e0]; exact hent _ _
 ·exact callsIn_FR (hcall'.mono fun e W' h => fin e W' h)
end Pk
namespace Pk
open Go
def dv (ρ : Env) (d : Option Tmp) : Value := match d with | some d => ρ d | none => undef
@[simp] theorem dv_some (ρ : Env) (d : Tmp) : dv ρ (some d) = ρ d := rfl
@[simp] theorem dv_none (ρ : Env) : dv ρ none = undef := rfl
theorem dv_put (ρ ρ' : Env) (d : Option Tmp) (v : Value) : dv (put ρ d v) d = dv (put ρ' d v) d := by cases d <;> simp
def tmpsOf (o : Oper) : List Tmp := o.op.operands.toList.filterMap fun | .tmp t => some t | _ => none
def bsAt (bs : List (List Nat)) (i : Nat) : List Nat := bs.getD i []
def befsOk (ops : List Oper) (m : Nat) (bs : List (List Nat)) : Bool :=
 decide (bs.length = m) && decide (m ≤ ops.length) &&
 (List.range m).all (fun i => match ops[i]? with
  | none => false
  | some o => (bsAt bs i).all (fun j => decide (j < i) && o.after.toList.any (fun e => Region.binds .any e && (e.on == j || (bsAt bs e.on).contains j))) &&
   (tmpsOf o).all (fun t => (List.range m).all fun j => (dstAt ops j != some t) || (bsAt bs i).contains j || (bsAt bs j).contains i) &&
   (match o.guard with | none => true | some (j,_) => (bsAt bs i).contains j) &&
   (List.range i).all fun j => o.dst.isNone || dstAt ops j != o.dst) &&
 (List.range ops.length).all (fun i => match ops[i]? with | none => false | some o => o.after.toList.all fun e => !Region.binds .any e || decide (e.on < i)) &&
 (List.range ops.length).all (fun i => decide (i < m) || (match ops[i]? with
  | none => false
  | some o => (List.range i).all fun k => o.after.toList.any fun e => Region.binds .any e && (e.on == k || (decide (e.on < m) && (bsAt bs e.on).contains k) || (decide (m ≤ e.on) && decide (k < e.on)))))
def upd (S : Nat → Bool) (i : Nat) : Nat → Bool := fun j => decide (j = i) || S j
@[simp] theorem upd_at (S : Nat → Bool) (i j : Nat) : upd S i j = (decide (j = i) || S j) := rfl
def nok (bs0 : List (List Nat)) (S : Nat → Bool) (i : Nat) : Prop := S i = false ∧ (∀ j ∈ bsAt bs0 i,S j = true) ∧ ∀ k,i ∈ bsAt bs0 k → S k = false
def VA (P : Program) (r : Option Nat) (ds : List Deferred) (Kp : World → World → Prop) (G : (Nat → Bool) → World → Prop) (bs0 : List (List Nat)) (w0 : World) (ops : Array Oper) (T : Env → World → Prop) :
  List Oper → List (Value → World → Prop) → List (List Nat) → Nat → List (Nat × (World → Prop)) → Env → Prop
 | o :: os, A :: As, b :: bs, i, acc, ρ =>
  (∀ S w', Kp w0 w' → G S w' → nok bs0 S i → (∀ p ∈ acc, p.1 ∈ b → p.2 w') →
   GI (gw ops ρ o.guard) (VO P r o (fun ρ'' ds'' w'' => ds'' = ds ∧ Kp w' w'' ∧ A (dv ρ'' o.dst) w'' ∧ G (upd S i) w'') (fun _ _ _ _ => False) ρ ds w') (A undef w' ∧ G (upd S i) w')) ∧
  ∀ v,VA P r ds Kp G bs0 w0 ops T os As bs (i + 1) (acc ++ [(i,A v)]) (put ρ o.dst v)
 | _,_,_,i,acc,ρ => ∀ S w',Kp w0 w' → G S w' → (∀ j,j < i → S j = true) → (∀ p ∈ acc,p.2 w') → T ρ w'
def lexEnv (ρ : Env) : List Oper → (Nat → Value) → Nat → Env
 | [],_,_ => ρ
 | o :: os,vs,i => lexEnv (put ρ o.dst (vs i)) os vs (i + 1)
theorem lexEnv_other (vs : Nat → Value) (t : Nat) : ∀ (l : List Oper) (ρ : Env) (i : Nat), (∀ j, dstAt l j ≠ some t) → lexEnv ρ l vs i t = ρ t
 | [],_,_,_ => rfl
 | o :: l, ρ, i, h => by
  have h0 := h 0
  rw [lexEnv,lexEnv_other vs t l _ _ (fun j => h (j + 1))]
  cases hd : o.dst with
  | none => rfl
  | some d =>
   have : t ≠ d := by rintro rfl; exact h0 hd
   simp [this]
theorem lexEnv_at (vs : Nat → Value) (t : Nat) : ∀ (l : List Oper) (ρ : Env) (i j : Nat), dstAt l j = some t → (∀ k, dstAt l k = some t → k = j) → lexEnv ρ l vs i t = vs (i + j)
 | [],_,_,_,h,_ => by simp [dstAt] at h
 | o :: l, ρ, i, 0, h, hu => by
  have h' : o.dst = some t := h
  rw [lexEnv, lexEnv_other]
  ·simp [h']
  ·intro j hj
   have := hu (j + 1) hj
   omega
 | o :: l, ρ, i, j + 1, h, hu => by
  rw [lexEnv, lexEnv_at vs t l _ (i + 1) j h]
  ·congr 1; omega
  ·intro k hk
   have := hu (k + 1) hk
   omega
theorem VO_env {P : Program} {r : Option Nat} {o : Oper} {k : Value → List Deferred → World → Prop} {ρ ρ' : Env} {ds : List Deferred} {w : World}
  (h : ∀ t ∈ tmpsOf o,ρ t = ρ' t) (hv : VO P r o (fun ρ'' ds'' w'' => k (dv ρ'' o.dst) ds'' w'') (fun _ _ _ _ => False) ρ ds w) :
  VO P r o (fun ρ'' ds'' w'' => k (dv ρ'' o.dst) ds'' w'' ∧ ∃ v,ρ'' = put ρ' o.dst v) (fun _ _ _ _ => False) ρ' ds w := by
 have hx : ∀ x ∈ o.op.operands, ev ρ x = ev ρ' x := by
  intro x hx
  cases x with
  | tmp t => exact h t (List.mem_filterMap.2 ⟨.tmp t,by simpa using hx,rfl⟩)
  | _ => rfl
 obtain ⟨dst,op,ty,pos,aft,gd⟩ := o
 have cv : ∀ v w',k (dv (put ρ dst v) dst) ds w' → (k (dv (put ρ' dst v) dst) ds w' ∧ ∃ u,put ρ' dst v = put ρ' dst u) := fun v w' hk => ⟨by rw [← dv_put ρ ρ']; exact hk,v,rfl⟩
 have onRm : ∀ {x : Result Value} {a b : Value → World → Prop}, (∀ v w', a v w' → b v w') → onR x a → onR x b := by
  intro x a b hab hx
  cases x with
  | ok v w' => exact hab _ _ hx
  | halt e w' => exact hx
 have onUm : ∀ {x : Result Unit} {a b : World → Prop}, (∀ w', a w' → b w') → onU x a → onU x b := by
  intro x a b hab hx
  cases x with
  | ok v w' => exact hab _ hx
  | halt e w' => exact hx
 cases op with
 | move x => rw [VO_move] at hv ⊢; rw [← hx x (by simp [Op.operands])]; exact cv _ _ hv
 | assign x => rw [VO_assign] at hv ⊢; rw [← hx x (by simp [Op.operands])]; exact cv _ _ hv
 | pick c a b => rw [VO_pick] at hv ⊢; rw [← hx c (by simp [Op.operands]),← hx a (by simp [Op.operands]),← hx b (by simp [Op.operands])]; exact onRm cv hv
 | alloc t => exact onRm cv hv
 | box t x => rw [VO_box] at hv ⊢; rw [← hx x (by simp [Op.operands])]; exact onRm cv hv
 | build t ps =>
  have e : ps.map (fun (i,x) => (i,ev ρ x)) = ps.map (fun (i,x) => (i,ev ρ' x)) := Array.map_congr_left fun p hp => by obtain ⟨i,x⟩ := p; simp only; rw [hx x (by simp [Op.operands]; exact ⟨i,hp⟩)]
  have hv' : onR ((Instr.build t (ps.map fun (i,x) => (i,ev ρ x))).run P w) (fun v w' => k (dv (put ρ dst v) dst) ds w') := hv
  rw [e] at hv'
  exact onRm cv hv'
 | buildSlice t n ps =>
  have e : ps.map (fun (i,x) => (i,ev ρ x)) = ps.map (fun (i,x) => (i,ev ρ' x)) := Array.map_congr_left fun p hp => by obtain ⟨i,x⟩ := p; simp only; rw [hx x (by simp [Op.operands]; exact ⟨i,hp⟩)]
  have hv' : onR ((Instr.buildSlice t n (ps.map fun (i,x) => (i,ev ρ x))).run P w) (fun v w' => k (dv (put ρ dst v) dst) ds w') := hv
  rw [e] at hv'
  exact onRm cv hv'
 | load t x => rw [VO_load] at hv ⊢; rw [← hx x (by simp [Op.operands])]; exact onRm cv hv
 | store t x y => rw [VO_store] at hv ⊢; rw [← hx x (by simp [Op.operands]),← hx y (by simp [Op.operands])]; exact onUm (fun w' => cv _ w') hv
 | nilCheck x => rw [VO_nilCheck] at hv ⊢; rw [← hx x (by simp [Op.operands])]; exact onRm cv hv
 | binOp p t x y t' =>
  have ex := hx x (by simp [Op.operands]); have ey := hx y (by simp [Op.operands])
  rw [VO_binOp] at hv ⊢; rw [← ex,← ey]; exact onRm cv hv
 | unOp p t x => rw [VO_unOp] at hv ⊢; rw [← hx x (by simp [Op.operands])]; exact onRm cv hv
 | convert s t x => rw [VO_convert] at hv ⊢; rw [← hx x (by simp [Op.operands])]; exact onRm cv hv
 | sliceToArrayPointer t x => rw [VO_s2ap] at hv ⊢; rw [← hx x (by simp [Op.operands])]; exact onRm cv hv
 | makeInterface t x => rw [VO_makeInterface] at hv ⊢; rw [← hx x (by simp [Op.operands])]; exact onRm cv hv
 | makeFunc fn first caps =>
  have e1' : first.map (ev ρ) = first.map (ev ρ') := Array.map_congr_left fun x hm => hx x (by simp [Op.operands,hm])
  have e2' : caps.map (ev ρ) = caps.map (ev ρ') := Array.map_congr_left fun x hm => hx x (by simp [Op.operands,hm])
  have hv' : k (dv (put ρ dst (.func fn (first.map (ev ρ)) (caps.map (ev ρ)))) dst) ds w := hv
  rw [e1',e2'] at hv'
  exact cv _ _ hv'
 | makeMap t x => 
  cases x with
  | none => rw [VO_makeMap] at hv ⊢; exact onRm cv hv
  | some x => rw [VO_makeMap] at hv ⊢; simp only [Option.map_some] at hv ⊢; rw [← hx x (by simp [Op.operands])]; exact onRm cv hv
 | makeSlice t x y => rw [VO_makeSlice] at hv ⊢; rw [← hx x (by simp [Op.operands]),← hx y (by simp [Op.operands])]; exact onRm cv hv
 | slice t x lo hi mx =>
  have ex := hx x (by simp [Op.operands])
  have el : lo.map (ev ρ) = lo.map (ev ρ') := by cases lo with | none => rfl | some a => simp [hx a (by simp [Op.operands])]
  have eh : hi.map (ev ρ) = hi.map (ev ρ') := by cases hi with | none => rfl | some a => simp [hx a (by simp [Op.operands])]
  have em : mx.map (ev ρ) = mx.map (ev ρ') := by cases mx with | none => rfl | some a => simp [hx a (by simp [Op.operands])]
  rw [VO_slice] at hv ⊢; rw [← ex,← el,← eh,← em]; exact onRm cv hv
 | fieldAddr s x f => rw [VO_fieldAddr] at hv ⊢; rw [← hx x (by simp [Op.operands])]; exact onRm cv hv
 | field s x f => rw [VO_field] at hv ⊢; rw [← hx x (by simp [Op.operands])]; exact onRm cv hv
 | indexAddr t x y => rw [VO_indexAddr] at hv ⊢; rw [← hx x (by simp [Op.operands]),← hx y (by simp [Op.operands])]; exact onRm cv hv
 | index t x y => rw [VO_index] at hv ⊢; rw [← hx x (by simp [Op.operands]),← hx y (by simp [Op.operands])]; exact onRm cv hv
 | lookup t x y ok => rw [VO_lookup] at hv ⊢; rw [← hx x (by simp [Op.operands]),← hx y (by simp [Op.operands])]; exact onRm cv hv
 | mapUpdate t x y z => rw [VO_mapUpdate] at hv ⊢; rw [← hx x (by simp [Op.operands]),← hx y (by simp [Op.operands]),← hx z (by simp [Op.operands])]; exact onUm (fun w' => cv _ w') hv
 | insert t x y z => rw [VO_insert] at hv ⊢; rw [← hx x (by simp [Op.operands]),← hx y (by simp [Op.operands]),← hx z (by simp [Op.operands])]; exact onUm (fun w' => cv _ w') hv
 | mapEntry t x y => rw [VO_mapEntry] at hv ⊢; rw [← hx x (by simp [Op.operands]),← hx y (by simp [Op.operands])]; exact onRm cv hv
 | entryStore t x y z => rw [VO_entryStore] at hv ⊢; rw [← hx x (by simp [Op.operands]),← hx y (by simp [Op.operands]),← hx z (by simp [Op.operands])]; exact onUm (fun w' => cv _ w') hv
 | range t x => rw [VO_range] at hv ⊢; rw [← hx x (by simp [Op.operands])]; exact onRm cv hv
 | next x s => rw [VO_next] at hv ⊢; rw [← hx x (by simp [Op.operands])]; exact onRm cv hv
 | entry x => rw [VO_entry] at hv ⊢; rw [← hx x (by simp [Op.operands])]; exact onRm cv hv
 | typeAssert x s t ok => rw [VO_typeAssert] at hv ⊢; rw [← hx x (by simp [Op.operands])]; exact onRm cv hv
 | extract x i => rw [VO_extract] at hv ⊢; rw [← hx x (by simp [Op.operands])]; exact onRm cv hv
 | call c =>
  obtain ⟨callee,args,ats⟩ := c
  cases callee with
  | value f =>
   have ea : args.toList.map (ev ρ) = args.toList.map (ev ρ') := List.map_congr_left fun x hm => hx x (by simp [Op.operands,Call.operands]; exact .inr (by simpa using hm))
   have ef := hx f (by simp [Op.operands,Call.operands])
   have hv' : CV P (ev ρ f) (args.toList.map (ev ρ)) w _ := hv
   show CV P (ev ρ' f) (args.toList.map (ev ρ')) w _
   rw [← ea,← ef]
   refine hv'.mono fun e w' hr => ?_
   cases e with
   | returned v => exact cv _ _ hr
   | panicked ch => exact hr
   | outgrown => exact hr
  | builtin b =>
   have ea : args.map (ev ρ) = args.map (ev ρ') := Array.map_congr_left fun x hm => hx x (by simp [Op.operands,Call.operands,hm])
   have hv' : onR ((BV b ats ty (args.map (ev ρ))).run P w) (fun v w' => k (dv (put ρ dst v) dst) ds w') := hv
   rw [ea] at hv'
   exact onRm cv hv'
  | invoke x m =>
   have ea : args.toList.map (ev ρ) = args.toList.map (ev ρ') := List.map_congr_left fun x hm => hx x (by simp [Op.operands,Call.operands]; exact .inr (by simpa using hm))
   have ef := hx x (by simp [Op.operands,Call.operands])
   have hv' : IV P m (ev ρ x :: args.toList.map (ev ρ)) w _ := hv
   show IV P m (ev ρ' x :: args.toList.map (ev ρ')) w _
   rw [← ea,← ef]
   refine hv'.mono fun e w' hr => ?_
   cases e with
   | returned v => exact cv _ _ hr
   | panicked ch => exact hr
   | outgrown => exact hr
 | defer c =>
  obtain ⟨callee,args,ats⟩ := c
  cases callee with
  | value f =>
   have ea : args.toList.map (ev ρ) = args.toList.map (ev ρ') := List.map_congr_left fun x hm => hx x (by simp [Op.operands,Call.operands]; exact .inr (by simpa using hm))
   have ef := hx f (by simp [Op.operands,Call.operands])
   have hv' : r = none ∧ DF (ev ρ f) (args.toList.map (ev ρ)) (fun x => k (dv (put ρ dst undef) dst) (x :: ds) w) := hv
   refine ⟨hv'.1,?_⟩
   have h2 := hv'.2
   show DF (ev ρ' f) (args.toList.map (ev ρ')) _
   rw [← ea,← ef]
   unfold DF at h2 ⊢
   split at h2
   ·exact ⟨by rw [← dv_put ρ ρ']; exact h2,_,rfl⟩
   ·exact h2.elim
  | _ => exact (show False from hv).elim
 | panic x =>
  have hv' : PN (ev ρ x) (fun _ => False) := hv
  unfold PN at hv'
  split at hv' <;> exact hv'.elim
 | _ => exact (show False from hv).elim
theorem gw_env {ops : List Oper} {ρ ρ' : Env} {g : Option (Nat × Bool)} (h : ∀ j b, g = some (j, b) → ∀ d, dstAt ops j = some d → ρ d = ρ' d) : gw ops.toArray ρ g = gw ops.toArray ρ' g := by
 cases g with
 | none => rfl
 | some g =>
  obtain ⟨j,b⟩ := g
  rw [gw_some,gw_some]
  unfold gd
  cases hd : dstAt ops j with
  | none => rfl
  | some d => simp only [h j b rfl d hd]
section draw
variable {P : Program} {n : Nat} {r : Option Nat} {id : Nat} {ops : List Oper} {m : Nat} {bs : List (List Nat)} {As : List (Value → World → Prop)} {Kp : World → World → Prop} {ds : List Deferred} {G : (Nat → Bool) → World → Prop} {bs0 : List (List Nat)} {w0 : World} {T : Env → World → Prop} {ρ : Env}
theorem dstAt_get (l : List Oper) (j : Nat) : dstAt l j = (l[j]?).bind (·.dst) := (dstAt_eq l j).symm
theorem VA_get (vs : Nat → Value) : ∀ (l : List Oper) (As' : List (Value → World → Prop)) (bs' : List (List Nat)) (i : Nat) (acc : List (Nat × (World → Prop))) (ρ : Env), l.length = As'.length → l.length = bs'.length →
  VA P r ds Kp G bs0 w0 ops.toArray T l As' bs' i acc ρ → ∀ k o A b, l[k]? = some o → As'[k]? = some A → bs'[k]? = some b →
   ∀ S w', Kp w0 w' → G S w' → nok bs0 S (i + k) → (∀ p ∈ acc, p.1 ∈ b → p.2 w') → (∀ (j : Nat) (A' : Value → World → Prop), j < k → As'[j]? = some A' → i + j ∈ b → A' (vs (i + j)) w') →
    GI (gw ops.toArray (lexEnv ρ (l.take k) vs i) o.guard) (VO P r o (fun ρ'' ds'' w'' => ds'' = ds ∧ Kp w' w'' ∧ A (dv ρ'' o.dst) w'' ∧ G (upd S (i + k)) w'') (fun _ _ _ _ => False) (lexEnv ρ (l.take k) vs i) ds w') (A undef w' ∧ G (upd S (i + k)) w')
 | [],_,_,_,_,_,_,_,_,k,_,_,_,h,_,_ => by simp at h
 | o :: l,[],_,_,_,_,h,_,_,_,_,_,_,_,_,_ => by simp at h
 | o :: l,A :: As',[],_,_,_,_,h,_,_,_,_,_,_,_,_ => by simp at h
 | o :: l, A :: As', b :: bs', i, acc, ρ, h1, h2, h, k, o', A', b', ho, hA, hb => by
  intro S w' hk hG hnok hacc hpre
  cases k with
  | zero =>
   simp only [List.getElem?_cons_zero,Option.some.injEq] at ho hA hb
   subst ho; subst hA; subst hb
   exact h.1 S w' hk hG hnok hacc
  | succ k =>
   simp only [List.getElem?_cons_succ] at ho hA hb
   simp only [List.take_succ_cons,lexEnv]
   have e0 : i + (k + 1) = i + 1 + k := by omega
   rw [e0] at hnok ⊢
   refine VA_get vs l As' bs' (i + 1) (acc ++ [(i, A (vs i))]) (put ρ o.dst (vs i)) (by simpa using h1) (by simpa using h2) (h.2 (vs i)) k o' A' b' ho hA hb S w' hk hG hnok ?_ ?_
   ·intro p hp hpb
    rcases List.mem_append.1 hp with hp | hp
    ·exact hacc p hp hpb
    ·simp at hp; subst hp
     have := hpre 0 A (by omega) (by simp) (by simpa using hpb)
     simpa using this
   ·intro j A'' hj hA'' hjb
    have e : i + (j + 1) = i + 1 + j := by omega
    have := hpre (j + 1) A'' (by omega) (by simpa using hA'') (by rw [e]; exact hjb)
    rw [e] at this
    exact this
theorem VA_end (vs : Nat → Value) : ∀ (l : List Oper) (As' : List (Value → World → Prop)) (bs' : List (List Nat)) (i : Nat) (acc : List (Nat × (World → Prop))) (ρ : Env), l.length = As'.length → l.length = bs'.length →
  VA P r ds Kp G bs0 w0 ops.toArray T l As' bs' i acc ρ → ∀ S w',Kp w0 w' → G S w' → (∀ j,j < i + l.length → S j = true) → (∀ p ∈ acc,p.2 w') → (∀ (j : Nat) (A' : Value → World → Prop),As'[j]? = some A' → A' (vs (i + j)) w') → T (lexEnv ρ l vs i) w'
 | [],[],[],_,_,_,_,_,h => fun S w' hk hG hS hacc _ => h S w' hk hG (by simpa using hS) hacc
 | [],_ :: _,_,_,_,_,h,_,_ => by simp at h
 | [],[],_ :: _,_,_,_,_,h,_ => by simp at h
 | o :: l,[],_,_,_,_,h,_,_ => by simp at h
 | o :: l,A :: As',[],_,_,_,_,h,_ => by simp at h
 | o :: l, A :: As', b :: bs', i, acc, ρ, h1, h2, h => by
  intro S w' hk hG hS hacc hpre
  simp only [lexEnv]
  refine VA_end vs l As' bs' (i + 1) _ _ (by simpa using h1) (by simpa using h2) (h.2 (vs i)) S w' hk hG (fun j hj => hS j (by simp only [List.length_cons]; omega)) ?_ ?_
  ·intro p hp
   rcases List.mem_append.1 hp with hp | hp
   ·exact hacc p hp
   ·simp at hp; subst hp
    have := hpre 0 A (by simp)
    simpa using this
  ·intro j A'' hA''
   have e : i + (j + 1) = i + 1 + j := by omega
   have := hpre (j + 1) A'' (by simpa using hA'')
   rw [e] at this
   exact this
theorem listed_set {listed : Array Bool} {i j : Nat} (hi : i < listed.size) : (listed.setIfInBounds i true).getD j false = (decide (j = i) || listed.getD j false) := by
 by_cases h : j = i
 ·subst h; simp [hi]
 ·simp only [Array.getD_eq_getD_getElem?]
  rw [Array.getElem?_setIfInBounds_ne (Ne.symm h)]
  simp [h]
theorem all_listed {listed : Array Bool} (h : listed.size ≤ listed.toList.count true) (i : Nat) (hi : i < listed.size) : listed.getD i false = true := by
 have h1 : listed.toList.count true = listed.toList.length := by
  have := List.count_le_length (a := true) (l := listed.toList)
  have hl : listed.toList.length = listed.size := Array.length_toList
  omega
 have h2 := List.count_eq_length.1 h1 listed[i] (by simp)
 simp [hi,← h2]
theorem count_listed {listed : Array Bool} {i : Nat} (hi : i < listed.size) (h : listed.getD i false = false) : (listed.setIfInBounds i true).toList.count true = listed.toList.count true + 1 := by
 have h' : listed[i] = false := by simpa [hi] using h
 have hc : ∀ (l : List Bool) (i : Nat), l[i]? = some false → (l.set i true).count true = l.count true + 1 := by
  intro l
  induction l with
  | nil => intro i h; simp at h
  | cons a l ih =>
   intro i h
   cases i with
   | zero => simp at h; subst h; simp
   | succ i =>
    simp only [List.getElem?_cons_succ] at h
    simp only [List.set_cons_succ,List.count_cons,ih i h]
    omega
 rw [Array.toList_setIfInBounds]
 exact hc _ _ (by simp [hi,h'])
theorem befsOk_bs (h : befsOk ops m bs = true) : bs.length = m ∧ m ≤ ops.length := by
 unfold befsOk at h
 simp only [Bool.and_eq_true,decide_eq_true_eq] at h
 exact ⟨h.1.1.1.1,h.1.1.1.2⟩
theorem befsOk_head (h : befsOk ops m bs = true) {i : Nat} (hi : i < m) : ∃ o, ops[i]? = some o ∧ True ∧
  (∀ j ∈ bsAt bs i,j < i ∧ ∃ e ∈ o.after,Region.binds .any e = true ∧ (e.on = j ∨ j ∈ bsAt bs e.on)) ∧
  (∀ t ∈ tmpsOf o,∀ j,j < m → dstAt ops j = some t → j ∈ bsAt bs i ∨ i ∈ bsAt bs j) ∧
  (∀ j b,o.guard = some (j,b) → j ∈ bsAt bs i) ∧ (∀ j,j < i → ∀ t,o.dst = some t → dstAt ops j ≠ some t) := by
 unfold befsOk at h
 simp only [Bool.and_eq_true,decide_eq_true_eq] at h
 have h1 := List.all_eq_true.1 h.1.1.2 i (by simpa using hi)
 cases ho : ops[i]? with
 | none => rw [ho] at h1; cases h1
 | some o =>
  rw [ho] at h1
  simp only [Bool.and_eq_true] at h1
  refine ⟨o, rfl, trivial, ?_, ?_, ?_, ?_⟩
  ·intro j hj
   have := List.all_eq_true.1 h1.1.1.1 j hj
   simp only [Bool.and_eq_true,decide_eq_true_eq,List.any_eq_true,Array.mem_toList_iff,Bool.or_eq_true,beq_iff_eq,List.contains_iff_mem] at this
   exact this
  ·intro t ht j hj hd
   have := List.all_eq_true.1 (List.all_eq_true.1 h1.1.1.2 t ht) j (by simpa using hj)
   simp only [Bool.or_eq_true,bne_iff_ne,ne_eq,List.contains_iff_mem] at this
   rcases this with (h | h) | h
   ·exact (h hd).elim
   ·exact .inl h
   ·exact .inr h
  ·intro j b hg
   have := h1.1.2
   rw [hg] at this
   simpa using this
  ·intro j hj t ht
   have := List.all_eq_true.1 h1.2 j (by simpa using hj)
   rw [ht] at this
   simpa using this
theorem befsOk_edge (h : befsOk ops m bs = true) {i : Nat} {o : Oper} (ho : ops[i]? = some o) : ∀ e ∈ o.after, Region.binds .any e = true → e.on < i := by
 unfold befsOk at h
 simp only [Bool.and_eq_true,decide_eq_true_eq] at h
 have h1 := List.all_eq_true.1 h.1.2 i (by simpa using (List.getElem?_eq_some_iff.1 ho).1)
 rw [ho] at h1
 intro e he hb
 have := List.all_eq_true.1 h1 e (by simpa using he)
 simpa [hb] using this
theorem befsOk_tail (h : befsOk ops m bs = true) {i : Nat} {o : Oper} (ho : ops[i]? = some o) (hi : m ≤ i) : ∀ k, k < i → ∃ e ∈ o.after, Region.binds .any e = true ∧ (e.on = k ∨ (e.on < m ∧ k ∈ bsAt bs e.on) ∨ (m ≤ e.on ∧ k < e.on)) := by
 unfold befsOk at h
 simp only [Bool.and_eq_true,decide_eq_true_eq] at h
 have h1 := List.all_eq_true.1 h.2 i (by simpa using (List.getElem?_eq_some_iff.1 ho).1)
 rw [ho] at h1
 simp only [Bool.or_eq_true,decide_eq_true_eq] at h1
 intro k hk
 have := List.all_eq_true.1 (h1.resolve_left (by omega)) k (by simpa using hk)
 simp only [List.any_eq_true,Array.mem_toList_iff,Bool.and_eq_true,Bool.or_eq_true,beq_iff_eq,decide_eq_true_eq,List.contains_iff_mem] at this
 obtain ⟨e,he,hb,hk⟩ := this
 exact ⟨e,he,hb,by rcases hk with (hk | hk) | hk <;> simp [hk]⟩
theorem lexEnv_take (ρ : Env) (vs : Nat → Value) (t k : Nat) (hu : ∀ i j, i < k → j < k → dstAt ops i = some t → dstAt ops j = some t → i = j) :
  lexEnv ρ (ops.take k) vs 0 t = (match (List.range k).find? (fun j => dstAt ops j == some t) with | some j => vs j | none => ρ t) := by
 have htk : ∀ j, dstAt (ops.take k) j = if j < k then dstAt ops j else none := by
  intro j
  rw [dstAt_get,dstAt_get,List.getElem?_take]
  split <;> rfl
 cases hf : (List.range k).find? (fun j => dstAt ops j == some t) with
 | none =>
  rw [List.find?_eq_none] at hf
  refine lexEnv_other vs t _ _ _ ?_
  intro j
  rw [htk]
  split
  ·rename_i hj
   have := hf j (by simpa using hj)
   simpa using this
  ·simp
 | some j =>
  have h1 := List.find?_some hf
  have h2 := List.mem_of_find?_eq_some hf
  have hj : j < k := by simpa using h2
  have hd : dstAt ops j = some t := by simpa using h1
  rw [lexEnv_at vs t _ _ 0 j]
  ·simp
  ·rw [htk,if_pos hj]; exact hd
  ·intro i hi
   rw [htk] at hi
   split at hi
   ·rename_i hik; exact hu i j hik hj hi hd
   ·cases hi
theorem any_tail {Q : Post} (hb : befsOk ops m bs = true) (hok : ops.all (okOp n) = true) : ∀ (fuel q : Nat) (listed : Array Bool) (a : Act) (ρ' : Env) (w' : World), m ≤ q → q ≤ ops.length → ops.length ≤ fuel + q → listed.size = ops.length →
  (∀ i,listed.getD i false = decide (i < q)) → Ag n a.tmps ρ' → VL P r ops.toArray Q (ops.drop q) ρ' a.defers w' →
  wpAnyIn (FR r) 0 P .any ops.toArray (fun e a w' => ∃ ρ',Ag n a.tmps ρ' ∧ Q e ρ' a.defers w') fuel listed a w' := by
 intro fuel
 induction fuel with
 | zero =>
  intro q listed a ρ' w' hm hq hf hs hl hA h
  have e : q = ops.length := by omega
  subst e
  simp only [List.drop_length] at h
  refine ⟨?_,ρ',hA,h⟩
  rw [List.eq_nil_iff_forall_not_mem]
  intro j hj
  obtain ⟨hj1,o,ho,_⟩ := mem_ready.1 hj
  have hjl : j < ops.length := by
   have := (Array.getElem?_eq_some_iff.1 ho).1; simpa using this
  have := hl j
  rw [decide_eq_true hjl] at this
  have hjs : j < listed.size := by omega
  simp [hjs] at hj1 this
  rw [hj1] at this; cases this
 | succ fuel ih =>
  intro q listed a ρ' w' hm hq hf hs hl hA h
  refine ⟨?_, ?_⟩
  ·intro hr
   by_cases e : q = ops.length
   ·subst e
    simp only [List.drop_length] at h
    exact ⟨ρ',hA,h⟩
   ·exfalso
    have hql : q < ops.length := by omega
    have : q ∈ Region.ready .any ops.toArray listed := by
     refine mem_ready.2 ⟨?_, ops[q], by simp [hql], ?_⟩
     ·have := hl q
      have hqs : q < listed.size := by omega
      simp [hqs] at this ⊢
      exact this
     ·intro e he hbe
      rw [hl]
      exact decide_eq_true (befsOk_edge hb (List.getElem?_eq_getElem hql) e he hbe)
    rw [hr] at this; cases this
  ·intro i hi
   obtain ⟨hi1,o,ho,hi2⟩ := mem_ready.1 hi
   have hil : i < ops.length := by
    have := (Array.getElem?_eq_some_iff.1 ho).1; simpa using this
   have his : i < listed.size := by omega
   have ho' : ops[i]? = some o := by simpa using ho
   have hiq : q ≤ i := by
    have := hl i
    simp [his] at hi1 this
    rw [hi1] at this
    have := this.symm
    simpa using this
   have e : i = q := by
    by_cases h' : i = q
    ·exact h'
    ·exfalso
     obtain ⟨e,he,hbe,hk⟩ := befsOk_tail hb ho' (by omega) q (by omega)
     have h1 := hi2 e he hbe
     rw [hl] at h1
     have h1 : e.on < q := by simpa using h1
     rcases hk with hk | ⟨hk1, hk2⟩ | ⟨hk1, hk2⟩
     ·omega
     ·have := ((befsOk_head hb hk1).choose_spec.2.2.1 q hk2).1
      omega
     ·omega
   subst e
   have hdrop : ops.drop i = o :: ops.drop (i + 1) := by
    rw [List.drop_eq_getElem_cons hil]
    congr 1
    have := List.getElem?_eq_getElem hil
    rw [ho'] at this; exact (Option.some.inj this).symm
   rw [hdrop] at h
   unfold VL at h
   unfold wpOpIn
   simp only [ho]
   have hok' : ops.toArray.toList.all (okOp n) = true := by simpa using hok
   have hoko : okOp n o = true := List.all_eq_true.1 hok o (List.mem_of_getElem? ho')
   have hnl : ∀ j, (listed.setIfInBounds i true).getD j false = decide (j < i + 1) := by
    intro j
    rw [listed_set his,hl]
    by_cases h1 : j = i
    ·subst h1; simp
    ·have : (j < i + 1) ↔ (j < i) := by omega
     simp [h1,this]
   have ha : a = ⟨a.tmps,a.defers⟩ := rfl
   rw [gw_eq hA hok' o]
   cases hg : gw ops.toArray ρ' o.guard with
   | true =>
    rw [hg] at h
    rw [GI_true] at h
    simp only [if_true]
    rw [ha]
    exact VO_sound hA hoko (fun a' ρ'' w'' hA' hk => ih (i + 1) _ a' ρ'' w'' (by omega) (by omega) (by omega) (by simpa using hs) hnl hA' hk) (fun e a' ρ'' w'' hA' hq' => ⟨ρ'',hA',hq'⟩) h
   | false =>
    rw [hg] at h
    rw [GI_false] at h
    simp only [Bool.false_eq_true,if_false]
    refine ⟨fun _ _ => trivial,ih (i + 1) _ _ _ w' (by omega) (by omega) (by omega) (by simpa using hs) hnl (hA.put (ds := a.defers) (Bool.and_eq_true_iff.1 hoko).1 undef) (by rw [put_defers]; exact h)⟩
theorem bs_listed (hb : befsOk ops m bs = true) {listed : Array Bool}
  (hcl : ∀ i,i < ops.length → listed.getD i false = true → ∀ o,ops[i]? = some o → ∀ e ∈ o.after,Region.binds .any e = true → listed.getD e.on false = true) :
  ∀ (i : Nat) (o : Oper),i < m → ops[i]? = some o → (∀ e ∈ o.after,Region.binds .any e = true → listed.getD e.on false = true) → ∀ j ∈ bsAt bs i,listed.getD j false = true := by
 intro i
 induction i using Nat.strongRecOn with
 | _ i ih =>
  intro o hi ho ha j hj
  obtain ⟨o',ho',_,h1,_⟩ := befsOk_head hb hi
  rw [ho] at ho'; cases ho'
  obtain ⟨hji,e,he,hbe,hk⟩ := h1 j hj
  rcases hk with hk | hk
  ·rw [← hk]; exact ha e he hbe
  ·have hlt := befsOk_edge hb ho e he hbe
   have hel : e.on < ops.length := by have := (befsOk_bs hb).2; omega
   have hle := ha e he hbe
   exact ih e.on hlt ops[e.on] (by omega) (List.getElem?_eq_getElem hel) (hcl e.on hel hle _ (List.getElem?_eq_getElem hel)) j hk
theorem head_uniq (hb : befsOk ops m bs = true) {i j : Nat} {t : Nat} (hi : i < m) (hj : j < m) (h1 : dstAt ops i = some t) (h2 : dstAt ops j = some t) : i = j := by
 rcases Nat.lt_trichotomy i j with h | h | h
 ·obtain ⟨o,ho,_,_,_,_,h6⟩ := befsOk_head hb hj
  have e : dstAt ops j = o.dst := by rw [dstAt_get,ho]; rfl
  exact (h6 i h t (by rw [← e,h2]) h1).elim
 ·exact h
 ·obtain ⟨o,ho,_,_,_,_,h6⟩ := befsOk_head hb hi
  have e : dstAt ops i = o.dst := by rw [dstAt_get,ho]; rfl
  exact (h6 j h t (by rw [← e,h1]) h2).elim
theorem lex_all (hb : befsOk ops m bs = true) {ρ' : Env} (hfr : ∀ t, (∀ i, i < m → dstAt ops i ≠ some t) → ρ' t = ρ t) : lexEnv ρ (ops.take m) (fun j => dv ρ' (dstAt ops j)) 0 = ρ' := by
 funext t
 rw [lexEnv_take ρ _ t m (fun i j hi hj h1 h2 => head_uniq hb hi hj h1 h2)]
 cases hf : (List.range m).find? (fun j => dstAt ops j == some t) with
 | none =>
  rw [List.find?_eq_none] at hf
  refine (hfr t fun i hi e => ?_).symm
  have := hf i (by simpa using hi)
  simp [e] at this
 | some j =>
  have h1 : dstAt ops j = some t := by simpa using List.find?_some hf
  simp only [h1,dv_some]
theorem WC_draw {Q : Post} {w : World} (m : Nat) (bs : List (List Nat)) (As : List (Value → World → Prop)) (Kp : World → World → Prop) (hm : P.follows .mixedOrders = true) (hb : befsOk ops m bs = true) (hAl : As.length = m)
  (hrefl : Kp w0 w.drew) (hrefl' : ∀ a,Kp a a) (htrans : ∀ a b c,Kp a b → Kp b c → Kp a c) (hstab : ∀ A ∈ As,∀ v a b,A v a → Kp a b → A v b) (hG0 : G (fun _ => false) w.drew)
  (h : VA P r ds Kp G bs w0 ops.toArray (fun ρ' w' => VL P r ops.toArray Q (ops.drop m) ρ' ds w') (ops.take m) As bs 0 [] ρ) : WC P n r (.region id ops.toArray true) Q ρ ds w := by
 intro hok tmps hAg
 have hok' : ops.all (okOp n) = true := by simpa [okC] using hok
 obtain ⟨hbl,hml⟩ := befsOk_bs hb
 refine wpIn_region_any hm ?_
 have key : ∀ (fuel : Nat) (listed : Array Bool) (a : Act) (ρ' : Env) (w' : World), a.defers = ds → listed.size = ops.length → Ag n a.tmps ρ' → Kp w0 w' → G (fun j => listed.getD j false) w' →
   (∀ i,i < ops.length → listed.getD i false = true → ∀ o,ops[i]? = some o → ∀ e ∈ o.after,Region.binds .any e = true → listed.getD e.on false = true) →
   (∀ j,m ≤ j → listed.getD j false = false) →
   (∀ i A,i < m → listed.getD i false = true → As[i]? = some A → A (dv ρ' (dstAt ops i)) w') →
   (∀ t,(∀ i,i < m → listed.getD i false = true → dstAt ops i ≠ some t) → ρ' t = ρ t) →
   ops.length ≤ fuel + listed.toList.count true →
   wpAnyIn (FR r) 0 P .any ops.toArray (fun e a w' => ∃ ρ',Ag n a.tmps ρ' ∧ Q e ρ' a.defers w') fuel listed a w' := by
  intro fuel
  induction fuel with
  | zero =>
   intro listed a ρ' w' hds hs hA hk hG hcl hhd hAs hfr hf
   have hall := all_listed (listed := listed) (by omega)
   have hml' : m = ops.length := by
    rcases Nat.lt_or_ge m ops.length with h1 | h1
    ·have := hhd m (Nat.le_refl _)
     rw [hall m (by omega)] at this; cases this
    ·omega
   refine any_tail hb hok' 0 m listed a ρ' w' (Nat.le_refl _) hml (by omega) hs ?_ hA ?_
   ·intro i
    by_cases h1 : i < ops.length
    ·rw [hall i (by omega)]; simp; omega
    ·have : decide (i < m) = false := by simp; omega
     rw [this]; simp [hs,h1]
   ·have hlex := lex_all (ρ := ρ) (ρ' := ρ') hb (fun t ht => hfr t (fun i hi _ => ht i hi))
    have hT := VA_end (fun j => dv ρ' (dstAt ops j)) (ops.take m) As bs 0 [] ρ (by simp [hAl]; omega) (by simp [hbl]; omega) h _ w' hk hG (fun j hj => hall j (by simp at hj; omega)) (by simp) (fun j A hjA => by
     have hjm : j < m := by rw [← hAl]; exact (List.getElem?_eq_some_iff.1 hjA).1
     have hjl : j < ops.length := by omega
     simp only [Nat.zero_add]
     exact hAs j A hjm (hall j (by omega)) hjA)
    rw [hlex] at hT
    rw [hds]; exact hT
  | succ fuel ih =>
   intro listed a ρ' w' hds hs hA hk hG hcl hhd hAs hfr hf
   by_cases hfull : ∀ i, i < m → listed.getD i false = true
   ·refine any_tail hb hok' (fuel + 1) m listed a ρ' w' (Nat.le_refl _) hml ?_ hs ?_ hA ?_
    ·have hc : listed.toList.count true ≤ m := by
      have hcc : ∀ (l : List Bool) (k : Nat), (∀ j, k ≤ j → l[j]?.getD false = false) → l.count true ≤ k := by
       intro l
       induction l with
       | nil => intro k _; simp
       | cons b l ihl =>
        intro k hkk
        cases k with
        | zero =>
         have h0 := hkk 0 (Nat.le_refl _)
         simp at h0; subst h0
         have := ihl 0 (fun j hj => by have := hkk (j + 1) (by omega); simpa using this)
         simp at this ⊢; exact this
        | succ k =>
         have := ihl k (fun j hj => by have := hkk (j + 1) (by omega); simpa using this)
         rw [List.count_cons]; split <;> omega
      refine hcc _ _ fun j hj => ?_
      have := hhd j hj
      simpa [Array.getD_eq_getD_getElem?] using this
     omega
    ·intro i
     by_cases h1 : i < m
     ·rw [hfull i h1]; simp [h1]
     ·rw [hhd i (by omega)]; simp [h1]
    ·have hlex := lex_all (ρ := ρ) (ρ' := ρ') hb (fun t ht => hfr t (fun i hi _ => ht i hi))
     have hT := VA_end (fun j => dv ρ' (dstAt ops j)) (ops.take m) As bs 0 [] ρ (by simp [hAl]; omega) (by simp [hbl]; omega) h _ w' hk hG (fun j hj => hfull j (by simp at hj; omega)) (by simp) (fun j A hjA => by
      have hjm : j < m := by rw [← hAl]; exact (List.getElem?_eq_some_iff.1 hjA).1
      simp only [Nat.zero_add]
      exact hAs j A hjm (hfull j hjm) hjA)
     rw [hlex] at hT
     rw [hds]; exact hT
   ·refine ⟨?_, ?_⟩
    ·intro hr
     exfalso
     obtain ⟨i, hi, hmin⟩ := exists_least (p := fun i => i < m ∧ listed.getD i false = false) (by
      simp only [Classical.not_forall] at hfull
      obtain ⟨i,h1,h2⟩ := hfull
      exact ⟨i,h1,by simpa using h2⟩)
     have hil : i < ops.length := by omega
     have : i ∈ Region.ready .any ops.toArray listed := by
      refine mem_ready.2 ⟨?_, ops[i], by simp [hil], ?_⟩
      ·have := hi.2
       have his : i < listed.size := by omega
       simpa [his] using this
      ·intro e he hbe
       have hlt := befsOk_edge hb (List.getElem?_eq_getElem hil) e he hbe
       cases hx : listed.getD e.on false with
       | true => rfl
       | false => have := hmin e.on ⟨by omega,hx⟩; omega
     rw [hr] at this; cases this
    ·intro i hi
     obtain ⟨hi1,o,ho,hi2⟩ := mem_ready.1 hi
     have hil : i < ops.length := by
      have := (Array.getElem?_eq_some_iff.1 ho).1; simpa using this
     have his : i < listed.size := by omega
     have ho' : ops[i]? = some o := by simpa using ho
     have hif : listed.getD i false = false := by simpa [his] using hi1
     have him : i < m := by
      rcases Nat.lt_or_ge i m with h1 | h1
      ·exact h1
      ·exfalso
       refine hfull fun k hk => ?_
       obtain ⟨e,he,hbe,hke⟩ := befsOk_tail hb ho' h1 k (by omega)
       have h2 := hi2 e he hbe
       rcases hke with hke | ⟨hke1, hke2⟩ | ⟨hke1, hke2⟩
       ·rw [← hke]; exact h2
       ·have hel : e.on < ops.length := by omega
        exact bs_listed hb hcl e.on ops[e.on] hke1 (List.getElem?_eq_getElem hel) (hcl e.on hel h2 _ (List.getElem?_eq_getElem hel)) k hke2
       ·rw [hhd e.on hke1] at h2; cases h2
     have hbsl := bs_listed hb hcl i o him ho' hi2
     obtain ⟨o'',ho'',hsome,hb3,hb4,hb5,hb6⟩ := befsOk_head hb him
     rw [ho'] at ho''; cases ho''
     have hdi : dstAt ops i = o.dst := by rw [dstAt_get,ho']; rfl
     obtain ⟨A,hAi⟩ : ∃ A,As[i]? = some A := ⟨As[i],List.getElem?_eq_getElem (by omega)⟩
     obtain ⟨b,hbi⟩ : ∃ b,bs[i]? = some b := ⟨bs[i],List.getElem?_eq_getElem (by omega)⟩
     have hbb : bsAt bs i = b := by unfold bsAt; rw [List.getD_eq_getElem?_getD,hbi]; rfl
     let vs : Nat → Value := fun j => dv ρ' (dstAt ops j)
     have hnok : nok bs (fun j => listed.getD j false) (0 + i) := by
      rw [Nat.zero_add]
      refine ⟨hif,hbsl,fun k hk' => ?_⟩
      cases hx : listed.getD k false with
      | false => exact hx
      | true =>
       exfalso
       have hkm : k < m := by
        rcases Nat.lt_or_ge k m with h1 | h1
        ·exact h1
        ·rw [hhd k h1] at hx; cases hx
       have hkl : k < ops.length := by omega
       have := bs_listed hb hcl k ops[k] hkm (List.getElem?_eq_getElem hkl) (hcl k hkl hx _ (List.getElem?_eq_getElem hkl)) i hk'
       rw [hif] at this; cases this
     have hupd : upd (fun j => listed.getD j false) (0 + i) = fun j => (listed.setIfInBounds i true).getD j false := by
      funext j
      rw [listed_set his,upd_at,Nat.zero_add]
     have hstep := VA_get vs (ops.take m) As bs 0 [] ρ (by simp [hAl]; omega) (by simp [hbl]; omega) h i o A b (by rw [List.getElem?_take, if_pos him]; exact ho') hAi hbi (fun j => listed.getD j false) w' hk hG hnok (by simp) (by
      intro j A' hj hA' hjb
      simp only [Nat.zero_add] at hjb ⊢
      have hjm : j < m := by omega
      exact hAs j A' hjm (hbsl j (by rw [hbb]; exact hjb)) hA')
     rw [List.take_take,Nat.min_eq_left (Nat.le_of_lt him),hupd] at hstep
     have hslot : ∀ t, (∀ j, j < m → dstAt ops j = some t → j ∈ bsAt bs i ∨ i ∈ bsAt bs j) → lexEnv ρ (ops.take i) vs 0 t = ρ' t := by
      intro t ht
      rw [lexEnv_take ρ vs t i (fun a b ha hb' h1 h2 => head_uniq hb (by omega) (by omega) h1 h2)]
      cases hf : (List.range i).find? (fun j => dstAt ops j == some t) with
      | none =>
       rw [List.find?_eq_none] at hf
       refine (hfr t fun j hj hlj e => ?_).symm
       rcases Nat.lt_trichotomy j i with hji | hji | hji
       ·have := hf j (by simpa using hji)
        simp [e] at this
       ·subst hji; rw [hif] at hlj; cases hlj
       ·rcases ht j hj e with h1 | h1
        ·have := (hb3 j h1).1; omega
        ·have hjl : j < ops.length := by omega
         have := bs_listed hb hcl j ops[j] hj (List.getElem?_eq_getElem hjl) (hcl j hjl hlj _ (List.getElem?_eq_getElem hjl)) i h1
         rw [hif] at this; cases this
      | some j =>
       have h1 : dstAt ops j = some t := by simpa using List.find?_some hf
       simp only [vs,h1,dv_some]
     have hgw : gw ops.toArray (lexEnv ρ (ops.take i) vs 0) o.guard = gw ops.toArray ρ' o.guard := by
      refine gw_env fun j b' hg dj hdj => hslot dj fun k hkm hk2 => ?_
      have hj1 := hb5 j b' hg
      have hj2 := (hb3 j hj1).1
      have := head_uniq hb hkm (by omega) hk2 hdj
      subst this
      exact .inl hj1
     have hokA : ops.toArray.toList.all (okOp n) = true := by simpa using hok'
     have hoko : okOp n o = true := List.all_eq_true.1 hok' o (List.mem_of_getElem? ho')
     have hcl' : ∀ k, k < ops.length → (listed.setIfInBounds i true).getD k false = true → ∀ ok, ops[k]? = some ok → ∀ e ∈ ok.after, Region.binds .any e = true → (listed.setIfInBounds i true).getD e.on false = true := by
      intro k hkl hkt ok hok2 e he hbe
      rw [listed_set his] at hkt ⊢
      by_cases hki : k = i
      ·subst hki
       rw [ho'] at hok2; cases hok2
       rw [hi2 e he hbe]; simp
      ·have : listed.getD k false = true := by simpa [hki] using hkt
       rw [hcl k hkl this ok hok2 e he hbe]; simp
     have hhd' : ∀ j, m ≤ j → (listed.setIfInBounds i true).getD j false = false := by
      intro j hj
      rw [listed_set his,hhd j hj]
      simp; omega
     have hcnt := count_listed his hif
     have next : ∀ (a' : Act) (v : Value) (w'' : World), a'.defers = ds → Ag n a'.tmps (put ρ' o.dst v) → Kp w' w'' → A (dv (put ρ' o.dst v) o.dst) w'' → G (fun j => (listed.setIfInBounds i true).getD j false) w'' →
       wpAnyIn (FR r) 0 P .any ops.toArray (fun e a w' => ∃ ρ',Ag n a.tmps ρ' ∧ Q e ρ' a.defers w') fuel (listed.setIfInBounds i true) a' w'' := by
      intro a' v w'' hds' hA' hkw hAv hGv
      refine ih _ a' (put ρ' o.dst v) w'' hds' (by simpa using hs) hA' (htrans _ _ _ hk hkw) hGv hcl' hhd' ?_ ?_ (by rw [hcnt]; omega)
      ·intro k A' hkm hkt hA'k
       rw [listed_set his] at hkt
       by_cases hki : k = i
       ·subst hki
        rw [hAi] at hA'k; cases hA'k
        rw [hdi]
        exact hAv
       ·have hkl : listed.getD k false = true := by simpa [hki] using hkt
        have : dv (put ρ' o.dst v) (dstAt ops k) = dv ρ' (dstAt ops k) := by
         cases hdk : dstAt ops k with
         | none => rfl
         | some dk =>
          cases hod : o.dst with
          | none => rfl
          | some d =>
           have hne : dk ≠ d := by
            rintro rfl
            exact hki (head_uniq hb hkm him hdk (by rw [hdi,hod]))
           simp [hne]
        rw [this]
        exact hstab A' (List.mem_of_getElem? hA'k) _ _ _ (hAs k A' hkm hkl hA'k) hkw
      ·intro t ht
       have : (put ρ' o.dst v) t = ρ' t := by
        cases hod : o.dst with
        | none => rfl
        | some d =>
         have hti : t ≠ d := by
          rintro rfl
          exact ht i him (by rw [listed_set his]; simp) (by rw [hdi,hod])
         simp [hti]
       rw [this]
       exact hfr t fun k hkm hkl => ht k hkm (by rw [listed_set his,hkl]; simp)
     unfold wpOpIn
     simp only [ho]
     have ha : a = ⟨a.tmps,ds⟩ := by cases a; simp_all
     rw [gw_eq hA hokA o,← hgw]
     cases hg : gw ops.toArray (lexEnv ρ (ops.take i) vs 0) o.guard with
     | true =>
      rw [hg,GI_true] at hstep
      simp only [if_true]
      have hv := VO_env (k := fun v ds'' w'' => ds'' = ds ∧ Kp w' w'' ∧ A v w'' ∧ G (fun j => (listed.setIfInBounds i true).getD j false) w'') (ρ' := ρ') (fun t ht => hslot t fun j hj hdj => hb4 t ht j hj hdj) hstep
      rw [ha]
      refine VO_sound (K := fun ρ'' ds'' w'' => (ds'' = ds ∧ Kp w' w'' ∧ A (dv ρ'' o.dst) w'' ∧ G (fun j => (listed.setIfInBounds i true).getD j false) w'') ∧ ∃ v,ρ'' = put ρ' o.dst v) (Q := fun _ _ _ _ => False) hA hoko ?_ (fun _ _ _ _ _ h => h.elim) hv
      rintro a' ρ'' w'' hA' ⟨⟨hds',hkw,hAv,hGv⟩,v,rfl⟩
      exact next a' v w'' hds' hA' hkw hAv hGv
     | false =>
      rw [hg,GI_false] at hstep
      simp only [Bool.false_eq_true,if_false]
      refine ⟨fun _ _ => trivial, next _ undef w' (by rw [put_defers]; exact hds) (hA.put (ds := a.defers) (Bool.and_eq_true_iff.1 hoko).1 undef) ?_ ?_ hstep.2⟩
      ·exact hrefl' w'
      ·cases hod : o.dst with
       | none => exact hstep.1
       | some d => simpa using hstep.1
 refine key ops.toArray.size (Array.replicate ops.toArray.size false) ⟨tmps,ds⟩ ρ w.drew rfl (by simp) hAg hrefl ?hG ?_ ?_ ?_ ?_ (by simp)
 case hG =>
  have e : (fun j => (Array.replicate ops.toArray.size false).getD j false) = fun _ => false := by
   funext j
   by_cases h1 : j < ops.length <;> simp [h1]
  rw [e]; exact hG0
 ·intro i hi h1; simp [hi] at h1
 ·intro j hj
  by_cases h1 : j < ops.length <;> simp [h1]
 ·intro i A hi h1; simp [Nat.lt_of_lt_of_le hi hml] at h1
 ·intro t _; rfl
end draw
end Pk
namespace Pk
open Go
theorem onR_det {x : Result Value} {d : Option Tmp} {K : Cont} {ρ : Env} {ds : List Deferred} (h : onR x fun v w' => K (put ρ d v) ds w') :
  ∃ v w',K (put ρ d v) ds w' ∧ ∀ K' : Cont,K' (put ρ d v) ds w' → onR x fun v w' => K' (put ρ d v) ds w' := by
 cases x with
 | ok v w' => exact ⟨v,w',h,fun _ h' => h'⟩
 | halt e w' => exact h.elim
theorem onU_det {x : Result Unit} {d : Option Tmp} {K : Cont} {ρ : Env} {ds : List Deferred} (h : onU x fun w' => K (put ρ d undef) ds w') :
  ∃ v w',K (put ρ d v) ds w' ∧ ∀ K' : Cont,K' (put ρ d v) ds w' → onU x fun w' => K' (put ρ d undef) ds w' := by
 cases x with
 | ok v w' => exact ⟨undef,w',h,fun _ h' => h'⟩
 | halt e w' => exact h.elim
def plain : Op → Bool
 | .call ⟨.value _,_,_⟩ | .call ⟨.invoke ..,_,_⟩ | .defer _ | .panic _ => false
 | _ => true
theorem VO_det {P : Program} {r : Option Nat} {o : Oper} {K : Cont} {Q : Post} {ρ : Env} {ds : List Deferred} {w : World} (hp : plain o.op = true) (h : VO P r o K Q ρ ds w) :
  ∃ v w',K (put ρ o.dst v) ds w' ∧ ∀ (K' : Cont) (Q' : Post),K' (put ρ o.dst v) ds w' → VO P r o K' Q' ρ ds w := by
 obtain ⟨dst,op,ty,pos,aft,gd⟩ := o
 have ofR : ∀ {x : Result Value}, onR x (fun v w' => K (put ρ dst v) ds w') → (∀ (K' : Cont) (Q' : Post), onR x (fun v w' => K' (put ρ dst v) ds w') → VO P r ⟨dst, op, ty, pos, aft, gd⟩ K' Q' ρ ds w) →
   ∃ v w',K (put ρ dst v) ds w' ∧ ∀ (K' : Cont) (Q' : Post),K' (put ρ dst v) ds w' → VO P r ⟨dst,op,ty,pos,aft,gd⟩ K' Q' ρ ds w := by
  intro x hx hb
  obtain ⟨v,w',h1,h2⟩ := onR_det hx
  exact ⟨v,w',h1,fun K' Q' h' => hb K' Q' (h2 K' h')⟩
 have ofU : ∀ {x : Result Unit}, onU x (fun w' => K (put ρ dst undef) ds w') → (∀ (K' : Cont) (Q' : Post), onU x (fun w' => K' (put ρ dst undef) ds w') → VO P r ⟨dst, op, ty, pos, aft, gd⟩ K' Q' ρ ds w) →
   ∃ v w',K (put ρ dst v) ds w' ∧ ∀ (K' : Cont) (Q' : Post),K' (put ρ dst v) ds w' → VO P r ⟨dst,op,ty,pos,aft,gd⟩ K' Q' ρ ds w := by
  intro x hx hb
  obtain ⟨v,w',h1,h2⟩ := onU_det hx
  exact ⟨v,w',h1,fun K' Q' h' => hb K' Q' (h2 K' h')⟩
 cases op with
 | call c =>
  obtain ⟨callee,args,ats⟩ := c
  cases callee with
  | value f => cases hp
  | invoke x m => cases hp
  | builtin b => exact ofR h fun _ _ h' => h'
 | defer c => cases hp
 | panic x => cases hp
 | move x => exact ⟨_,_,h,fun _ _ h' => h'⟩
 | assign x => exact ⟨_,_,h,fun _ _ h' => h'⟩
 | makeFunc fn first caps => exact ⟨_,_,h,fun _ _ h' => h'⟩
 | box t x => exact ofR (x := (Instr.box t (ev ρ x)).run P w) h fun _ _ h' => h'
 | _ => first | exact ofR h fun _ _ h' => h' | exact ofU h fun _ _ h' => h' | exact (show False from h).elim
def PL (P : Program) (r : Option Nat) (ds : List Deferred) (ops : Array Oper) (w1 : World) (T : Env → Prop) : List Oper → Env → Prop
 | [],σ => T σ
 | o :: os,σ => GI (gw ops σ o.guard) (VO P r o (fun ρ'' ds'' w'' => (ds'' = ds ∧ w'' = w1) ∧ PL P r ds ops w1 T os ρ'') (fun _ _ _ _ => False) σ ds w1) (PL P r ds ops w1 T os (put σ o.dst undef))
def PLt (P : Program) (r : Option Nat) (ds : List Deferred) (ops : Array Oper) (w1 : World) (T : Env → Prop) (l : List Oper) (_ : Tok (PProd.mk ops (PProd.mk T l))) (σ : Env) : Prop := PL P r ds ops w1 T l σ
@[simp ↓] theorem PL_tok (P : Program) (r : Option Nat) (ds : List Deferred) (ops : Array Oper) (w1 : World) (T : Env → Prop) (l : List Oper) (σ : Env) : PL P r ds ops w1 T l σ = PLt P r ds ops w1 T l .mk σ := _root_.id rfl
@[simp] theorem PLt_nil (P : Program) (r : Option Nat) (ds : List Deferred) (ops : Array Oper) (w1 : World) (T : Env → Prop) (t) (σ : Env) : PLt P r ds ops w1 T [] t σ = T σ := _root_.id rfl
@[simp] theorem PLt_cons (P : Program) (r : Option Nat) (ds : List Deferred) (ops : Array Oper) (w1 : World) (T : Env → Prop) (o : Oper) (os : List Oper) (t) (σ : Env) :
  PLt P r ds ops w1 T (o :: os) t σ = GIt (gw ops σ o.guard) (VO P r o (fun ρ'' ds'' w'' => (ds'' = ds ∧ w'' = w1) ∧ PL P r ds ops w1 T os ρ'') (fun _ _ _ _ => False) σ ds w1) (PL P r ds ops w1 T os (put σ o.dst undef)) .mk := _root_.id rfl
def PCs (P : Program) (r : Option Nat) (ds : List Deferred) (ops : Array Oper) (w1 : World) (T : Env → Prop) : List Oper → List Value → Env → Prop
 | o :: os,c :: cs,σ => GI (gw ops σ o.guard) (VO P r o (fun ρ'' ds'' w'' => ds'' = ds ∧ w'' = w1 ∧ dv ρ'' o.dst = c) (fun _ _ _ _ => False) σ ds w1) (c = undef) ∧ PCs P r ds ops w1 T os cs (put σ o.dst c)
 | [],[],σ => T σ
 | _,_,_ => False
section
variable {P : Program} {r : Option Nat} {ds : List Deferred} {ops : List Oper} {w1 : World} {T : Env → Prop} {m : Nat} {bs : List (List Nat)}
theorem PCs_length : ∀ {l : List Oper} {cs : List Value} {σ : Env}, PCs P r ds ops.toArray w1 T l cs σ → cs.length = l.length
 | [],[],_,_ => rfl
 | [],_ :: _,_,h => h.elim
 | _ :: _,[],_,h => h.elim
 | _ :: _,_ :: _,_,h => congrArg (· + 1) (PCs_length h.2)
theorem PL_PCs : ∀ (l : List Oper) (σ : Env), (∀ o ∈ l, plain o.op = true ∧ o.dst.isSome = true) → PL P r ds ops.toArray w1 T l σ → ∃ cs, PCs P r ds ops.toArray w1 T l cs σ
 | [],_,_,h => ⟨[],h⟩
 | o :: l, σ, hp, h => by
  obtain ⟨d,hd⟩ := Option.isSome_iff_exists.1 (hp o (by simp)).2
  unfold PL at h
  cases hg : gw ops.toArray σ o.guard with
  | true =>
   rw [hg,GI_true] at h
   obtain ⟨v,w',⟨⟨h1,h2⟩,h3⟩,h4⟩ := VO_det (hp o (by simp)).1 h
   obtain ⟨cs,hcs⟩ := PL_PCs l _ (fun o ho => hp o (by simp [ho])) h3
   refine ⟨v :: cs,?_,hcs⟩
   rw [hg,GI_true]
   refine h4 _ _ ⟨rfl,h2,?_⟩
   rw [hd]; simp
  | false =>
   rw [hg,GI_false] at h
   obtain ⟨cs,hcs⟩ := PL_PCs l _ (fun o ho => hp o (by simp [ho])) h
   refine ⟨undef :: cs,?_,hcs⟩
   rw [hg,GI_false]
theorem PCs_VA {bs0 : List (List Nat)} (hb : befsOk ops m bs = true) : ∀ (l : List Oper) (cs : List Value) (i : Nat) (bs' : List (List Nat)) (acc : List (Nat × (World → Prop))) (ρ σ : Env),
  (∀ o ∈ l,plain o.op = true ∧ o.dst.isSome = true) → (∀ k,k < l.length → l[k]? = ops[i + k]?) → i + l.length = m → bs'.length = l.length → (∀ k,k < l.length → bs'[k]? = bs[i + k]?) →
  PCs P r ds ops.toArray w1 T l cs σ →
  (∀ j,j < i → ∀ d,dstAt ops j = some d → ∃ p ∈ acc,p.1 = j ∧ ∀ w',p.2 w' → ρ d = σ d) →
  (∀ t,(∀ j,j < i → dstAt ops j ≠ some t) → ρ t = σ t) →
  VA P r ds (fun a b => a = b) (fun _ _ => True) bs0 w1 ops.toArray (fun ρ w' => w1 = w' ∧ T ρ) l (cs.map fun c v _ => v = c) bs' i acc ρ
 | [], [], i, [], acc, ρ, σ, _, _, _, _, _, h, ha, hr => by
  intro S w' hk _ _ hacc
  refine ⟨hk,?_⟩
  have : ρ = σ := by
   funext t
   by_cases ht : ∃ j, j < i ∧ dstAt ops j = some t
   ·obtain ⟨j,hj,hd⟩ := ht
    obtain ⟨p,hp,_,h2⟩ := ha j hj t hd
    exact h2 w' (hacc p hp)
   ·exact hr t fun j hj hd => ht ⟨j,hj,hd⟩
  rw [this]; exact h
 | [],_ :: _,_,_,_,_,_,_,_,_,_,_,h,_,_ => h.elim
 | [],[],_,_ :: _,_,_,_,_,_,_,h,_,_,_,_ => by simp at h
 | _ :: _,[],_,_,_,_,_,_,_,_,_,_,h,_,_ => h.elim
 | _ :: _,_ :: _,_,[],_,_,_,_,_,_,h,_,_,_,_ => by simp at h
 | o :: l, c :: cs, i, b :: bs', acc, ρ, σ, hp, hl, hm, hbl, hbs, h, ha, hr => by
  have hi : i < m := by simp at hm; omega
  have ho : ops[i]? = some o := by have := hl 0 (by simp); simpa using this.symm
  have hbi : bsAt bs i = b := by
   have := hbs 0 (by simp)
   simp at this
   unfold bsAt; rw [List.getD_eq_getElem?_getD,← this]; rfl
  obtain ⟨o',ho',-,hb3,hb4,hb5,hb6⟩ := befsOk_head hb hi
  rw [ho] at ho'; cases ho'
  obtain ⟨d,hd⟩ := Option.isSome_iff_exists.1 (hp o (by simp)).2
  have hdi : dstAt ops i = some d := by rw [dstAt_get,ho]; exact hd
  refine ⟨?_, ?_⟩
  ·intro S w' hk _ _ hacc
   subst hk
   have hslot : ∀ t, (∀ j, j < m → dstAt ops j = some t → j ∈ bsAt bs i ∨ i ∈ bsAt bs j) → σ t = ρ t := by
    intro t ht
    by_cases hx : ∃ j, j < i ∧ dstAt ops j = some t
    ·obtain ⟨j,hj,hdj⟩ := hx
     obtain ⟨p,hp,h1,h2⟩ := ha j hj t hdj
     rcases ht j (by omega) hdj with h3 | h3
     ·exact (h2 _ (hacc p hp (by rw [h1,← hbi]; exact h3))).symm
     ·have hjm : j < m := by omega
      obtain ⟨oj,_,_,hbj,_⟩ := befsOk_head hb hjm
      have := (hbj i h3).1
      omega
    ·exact (hr t fun j hj hdj => hx ⟨j,hj,hdj⟩).symm
   have hgw : gw ops.toArray σ o.guard = gw ops.toArray ρ o.guard := by
    refine gw_env fun j b' hg dj hdj => hslot dj fun k hkm hk2 => ?_
    have hj1 := hb5 j b' hg
    have hj2 := (hb3 j hj1).1
    have := head_uniq hb hkm (by omega) hk2 hdj
    subst this
    exact .inl hj1
   have hs := h.1
   rw [← hgw]
   cases hg : gw ops.toArray σ o.guard with
   | true =>
    rw [hg,GI_true] at hs
    rw [GI_true]
    have := VO_env (k := fun v ds'' w'' => ds'' = ds ∧ w'' = w1 ∧ v = c) (ρ' := ρ) (fun t ht => hslot t fun j hj hdj => hb4 t ht j hj hdj) hs
    obtain ⟨v,w',h1,h2⟩ := VO_det (hp o (by simp)).1 this
    exact h2 _ _ ⟨h1.1.1,h1.1.2.1.symm,h1.1.2.2,trivial⟩
   | false =>
    rw [hg,GI_false] at hs
    rw [GI_false]
    exact ⟨hs.symm,trivial⟩
  ·intro v
   refine PCs_VA hb l cs (i + 1) bs' _ (put ρ o.dst v) (put σ o.dst c) (fun o ho => hp o (by simp [ho])) ?_ (by simp at hm; omega) (by simpa using hbl) ?_ h.2 ?_ ?_
   ·intro k hk
    have := hl (k + 1) (by simpa using hk)
    rw [List.getElem?_cons_succ] at this
    rw [this]; congr 1; omega
   ·intro k hk
    have := hbs (k + 1) (by simpa using hk)
    rw [List.getElem?_cons_succ] at this
    rw [this]; congr 1; omega
   ·intro j hj d' hd'
    rw [hd]
    by_cases hji : j = i
    ·subst hji
     rw [hdi] at hd'; cases hd'
     exact ⟨_,List.mem_append_right _ (List.mem_singleton.2 rfl),rfl,fun w' h' => by simpa using h'⟩
    ·have hne : d' ≠ d := by
      rintro rfl
      exact hji (head_uniq hb (by omega) hi hd' hdi)
     obtain ⟨p,hp,h1,h2⟩ := ha j (by omega) d' hd'
     exact ⟨p,List.mem_append_left _ hp,h1,fun w' h' => by simpa [hne] using h2 w' h'⟩
   ·intro t ht
    have hne : t ≠ d := by
     rintro rfl
     exact ht i (by omega) hdi
    rw [hd]
    simpa [hne] using hr t fun j hj => ht j (by omega)
def befs (ops : List Oper) : Nat → List (List Nat)
 | 0 => []
 | m + 1 => befs ops m ++ [match ops[m]? with | none => [] | some o => (o.after.toList.filter (Region.binds .any)).flatMap fun e => e.on :: bsAt (befs ops m) e.on]
theorem WC_drawP {n : Nat} {id : Nat} {Q : Post} {ρ : Env} {w : World} (m : Nat) (bs : List (List Nat)) (hm : P.follows .mixedOrders = true) (hb : (befsOk ops m bs && (ops.take m).all (fun o => plain o.op && o.dst.isSome)) = true)
  (h : PL P r ds ops.toArray w.drew (fun ρ' => VL P r ops.toArray Q (ops.drop m) ρ' ds w.drew) (ops.take m) ρ) : WC P n r (.region id ops.toArray true) Q ρ ds w := by
 rw [Bool.and_eq_true] at hb
 obtain ⟨hb,hpl⟩ := hb
 obtain ⟨hbl,hml⟩ := befsOk_bs hb
 have hp : ∀ o ∈ ops.take m,plain o.op = true ∧ o.dst.isSome = true := fun o ho => Bool.and_eq_true_iff.1 (List.all_eq_true.1 hpl o ho)
 obtain ⟨cs,hcs⟩ := PL_PCs (ops.take m) ρ hp h
 have hlen := PCs_length hcs
 refine WC_draw m bs (cs.map fun c v _ => v = c) (fun a b => a = b) hm hb (by rw [List.length_map, hlen, List.length_take]; omega) (G := fun _ _ => True) (w0 := w.drew) rfl (fun _ => rfl) (fun a b c h1 h2 => h1.trans h2) ?_ trivial ?_
 ·intro A hA v a b h1 _
  obtain ⟨c,_,rfl⟩ := List.mem_map.1 hA
  exact h1
 ·have := PCs_VA (bs0 := bs) hb (ops.take m) cs 0 bs [] ρ ρ hp (fun k hk => by rw [List.getElem?_take,if_pos (by simp at hk; omega)]; simp) (by simp; omega) (by simp; omega) (fun k hk => by simp) hcs (fun j hj => by omega) (fun t _ => rfl)
  have hT : ∀ (l : List Oper) As bs' i acc ρ, VA P r ds (fun a b => a = b) (fun _ _ => True) bs w.drew ops.toArray (fun ρ' w' => w.drew = w' ∧ VL P r ops.toArray Q (ops.drop m) ρ' ds w.drew) l As bs' i acc ρ →
    VA P r ds (fun a b => a = b) (fun _ _ => True) bs w.drew ops.toArray (fun ρ' w' => VL P r ops.toArray Q (ops.drop m) ρ' ds w') l As bs' i acc ρ := by
   intro l
   induction l with
   | nil => intro As bs' i acc ρ hv S w' hk hg hS ha; obtain ⟨h1,h2⟩ := hv S w' hk hg hS ha; rw [← h1]; exact h2
   | cons o l ih =>
    intro As bs' i acc ρ hv
    cases As with
    | nil => intro S w' hk hg hS ha; obtain ⟨h1,h2⟩ := hv S w' hk hg hS ha; rw [← h1]; exact h2
    | cons A As =>
     cases bs' with
     | nil => intro S w' hk hg hS ha; obtain ⟨h1,h2⟩ := hv S w' hk hg hS ha; rw [← h1]; exact h2
     | cons b bs' => exact ⟨hv.1,fun v => ih _ _ _ _ _ (hv.2 v)⟩
  exact hT _ _ _ _ _ _ this
theorem WC_drawQ {n : Nat} {id : Nat} {Q : Post} {ρ : Env} {w : World} (m : Nat) (hm : P.follows .mixedOrders = true) (hb : (befsOk ops m (befs ops m) && (ops.take m).all (fun o => plain o.op && o.dst.isSome)) = true)
  (h : PL P r ds ops.toArray w.drew (fun ρ' => VL P r ops.toArray Q (ops.drop m) ρ' ds w.drew) (ops.take m) ρ) : WC P n r (.region id ops.toArray true) Q ρ ds w := WC_drawP m (befs ops m) hm hb h
end
theorem LV_mark {P : Program} {rs : Array ResultVar} {R : Ending → World → Prop} {ρ : Env} {ds : List Deferred} {u : FrameMode} {w : World} {D : Nat} (h : w.heap[D]? = some (.deferred (some []))) (hu : u ≠ .run)
  (hk : LV P rs R ρ ds u (w.putObj D (.deferred none))) : LV P rs R ρ ({ target := .collected D,args := #[] } :: ds) u w :=
 ⟨hu,.inl ⟨D,_,rfl,run_takeDeferred h,hk⟩⟩
end Pk
namespace Pk
open Go
def slB : Value → Nat | .slice (some a) _ _ => a.block | _ => 0
def slO : Value → Nat | .slice (some a) _ _ => a.off | _ => 0
def slC : Value → Nat | .slice _ _ c => c | _ => 0
def slN : Value → Bool | .slice none _ _ => true | _ => false
def slcH (v : Value) (n : Nat) : Value := match v with | .slice a _ c => .slice a n c | v => v
def slcL (v : Value) (l s : Nat) : Value := match v with | .slice a n c => .slice (if c = l then a else a.map (·.add (l * s))) (n - l) (c - l) | v => v
structure Sl (w : World) (s : Nat) (v : Value) (n : Nat) (cs : List Value) : Prop where
 len : cs.length = n * s
 val : (∃ c,v = .slice none 0 c ∧ n = 0) ∨ (∃ b o c,v = .slice (some ⟨b,o,none⟩) n c ∧ n ≤ c)
 at_ : ∀ j u,cs[j]? = some u → w.cell? ⟨slB v,slO v + j,none⟩ = some u
theorem Sl.nil (w : World) (s c : Nat) : Sl w s (.slice none 0 c) 0 [] := ⟨by simp,.inl ⟨c,rfl,rfl⟩,by simp⟩
theorem Sl.kept {w w' : World} {s : Nat} {v : Value} {n : Nat} {cs : List Value} (h : Sl w s v n cs) (hw : ∀ (a : Addr) (u : Value), a.block = slB v → w.cell? a = some u → w'.cell? a = some u) : Sl w' s v n cs :=
 ⟨h.len,h.val,fun j u hj => hw _ _ rfl (h.at_ j u hj)⟩
theorem Sl.ext {w w' : World} {s : Nat} {v : Value} {n : Nat} {cs : List Value} (h : Sl w s v n cs) (he : Ext w w') : Sl w' s v n cs := h.kept fun _ _ _ hu => he.cell_eq hu
theorem Sl.mod {w w' : World} {s : Nat} {v : Value} {n : Nat} {cs : List Value} {S : Nat → Prop} (h : Sl w s v n cs) (he : Mod S w w') (hs : ¬ S (slB v)) : Sl w' s v n cs :=
 h.kept fun a _ ha hu => he.cell hu (by rw [ha]; exact hs)
theorem Sl.lt {w : World} {s : Nat} {v : Value} {n : Nat} {cs : List Value} (h : Sl w s v n cs) (h0 : 0 < cs.length) : slB v < w.heap.size :=
 World.block_lt_of_cell? w _ (h.at_ 0 cs[0] (by simp [h0]))
section
variable {P : Program} {w : World} {s : Nat} {v : Value} {n : Nat} {cs : List Value} {t : TypeId}
theorem Sl.isLen (h : Sl w s v n cs) (hs : isS (P.underlying t) = true) (ty : TypeId) (w' : World) : (Builtin.len_ #[t] ty #[v]).run P w' = .ok (.int .i64 n) w' := by
 rcases h.val with ⟨c, rfl, rfl⟩ | ⟨b, o, c, rfl, _⟩
 ·simpa using r_len_slice P w' t ty none 0 c hs
 ·exact r_len_slice P w' t ty _ n c hs
theorem Sl.index (h : Sl w s v n cs) (hs : isS (P.underlying t) = true) (k : IntKind) (i : Int) (h0 : 0 ≤ i) (h1 : i < n) (w' : World) :
  (Instr.indexAt t v (.int k i)).run P w' = ((Go.sizeOf (elemT (P.underlying t))).run P w').andThen fun n w' => .ok (.pointer (some ⟨slB v,slO v + i.toNat * n,none⟩)) w' := by
 rcases h.val with ⟨c, rfl, rfl⟩ | ⟨b, o, c, rfl, _⟩
 ·omega
 ·exact r_index_slice P w' t b o n c k i hs h0 h1
theorem elem_of (hs : isS (P.underlying t) = true) : P.underlying t = some (.slice (P.elem t)) := by
 have := isS_inv hs
 have h2 : P.elem t = elemT (P.underlying t) := by unfold Program.elem; rw [this]; rfl
 rw [h2]; exact this
theorem elemT_of (hs : isS (P.underlying t) = true) : elemT (P.underlying t) = P.elem t := by
 have := elem_of hs
 rw [this]; rfl
theorem Sl.sliceH (h : Sl w s v n cs) (hs : isS (P.underlying t) = true) (k : IntKind) (i : Int) (h0 : 0 ≤ i) (h1 : i ≤ n) (w' : World) :
  (Instr.sliceAt t v none (some (.int k i)) none).run P w' = ((Go.sizeOf (elemT (P.underlying t))).run P w').andThen fun _ w' => .ok (slcH v i.toNat) w' := by
 rw [run_sliceAt_slice w' t v _ _ _ (elem_of hs),elemT_of hs]
 rcases h.val with ⟨c, rfl, rfl⟩ | ⟨b, o, c, rfl, hc⟩
 ·rw [run_slice_h w' t none 0 c (elem_of hs) k i h0 (by omega)]
  congr 1; funext a w''; simp [sliced,slcH]
 ·rw [run_slice_h w' t _ n c (elem_of hs) k i h0 (by omega)]
  congr 1; funext a w''; simp [sliced,slcH]
theorem Sl.takeH (h : Sl w s v n cs) (i : Nat) (h1 : i ≤ n) : Sl w s (slcH v i) i (cs.take (i * s)) := by
 have hl := h.len
 have : i * s ≤ n * s := Nat.mul_le_mul_right s h1
 refine ⟨by rw [List.length_take]; omega, ?_, ?_⟩
 ·rcases h.val with ⟨c, rfl, rfl⟩ | ⟨b, o, c, rfl, hc⟩
  ·exact .inl ⟨c, by have : i = 0 := by omega
                     subst this; rfl,by omega⟩
  ·exact .inr ⟨b,o,c,rfl,by omega⟩
 ·intro j u hj
  rw [List.getElem?_take] at hj
  split at hj
  ·have hat := h.at_ j u hj
   rcases h.val with ⟨c,rfl,rfl⟩ | ⟨b,o,c,rfl,hc⟩ <;> exact hat
  ·cases hj
theorem Sl.src (h : Sl w s v n cs) (hs : isS (P.underlying t) = true) (h1 : ∀ u ∈ cs, u.oneCell' = true) : Src P s t v n cs w := by
 rcases h.val with ⟨c, rfl, rfl⟩ | ⟨b, o, c, rfl, hc⟩
 ·have : cs = [] := List.eq_nil_of_length_eq_zero (by simpa using h.len)
  subst this
  exact Src.ofNil w (elem_of hs) c
 ·exact Src.ofSlice w (elem_of hs) ⟨b,o,none⟩ n c cs h.len (fun j u hj => by simpa [slB,slO] using h.at_ j u hj) h1
end
theorem sl_of_own {w : World} {base e s : Nat} {v : Value} {n : Nat} {xs : List Value} (h : w.ownsRow base e s v n xs) : Sl w s v n xs := by
 refine ⟨h.1, ?_, ?_⟩
 ·rcases h.2 with ⟨rfl, rfl⟩ | ⟨g, cap, cur, rfl, _, _, hc, _⟩
  ·exact .inl ⟨0,rfl,rfl⟩
  ·exact .inr ⟨g,0,cap,rfl,hc⟩
 ·intro j u hj
  rcases h.2 with ⟨rfl, rfl⟩ | ⟨g, cap, cur, rfl, hb, hg, hc, _⟩
  ·have : xs = [] := List.eq_nil_of_length_eq_zero (by simpa using h.1)
   subst this; simp at hj
  ·have := h.cells (g := g) rfl j u hj
   simpa [slB,slO] using this
theorem own_ge {w : World} {base e s : Nat} {v : Value} {n : Nat} {xs : List Value} (h : w.ownsRow base e s v n xs) (h0 : slN v = false) : base ≤ slB v := by
 rcases h.2 with ⟨rfl, rfl⟩ | ⟨g, cap, cur, rfl, hb, hg, hc, _⟩
 ·cases h0
 ·exact hb
theorem own_keep {w w' : World} {base e s : Nat} {v : Value} {n : Nat} {xs : List Value} (h : w.ownsRow base e s v n xs) (hk : slN v = false → slB v < w.heap.size → w'.heap[slB v]? = w.heap[slB v]?) : w'.ownsRow base e s v n xs := by
 refine ⟨h.1,?_⟩
 rcases h.2 with hn | ⟨g, cap, cur, rfl, hb, hg, rest⟩
 ·exact .inl hn
 ·exact .inr ⟨g,cap,cur,rfl,hb,(hk rfl (Array.getElem?_eq_some_iff.1 hg).1).trans hg,rest⟩
theorem own_ext {w w' : World} {base e s : Nat} {v : Value} {n : Nat} {xs : List Value} (h : w.ownsRow base e s v n xs) (he : Ext w w') : w'.ownsRow base e s v n xs := own_keep h fun _ hl => he.blk _ hl
theorem own_obj {w : World} {base e s : Nat} {v : Value} {n : Nat} {xs : List Value} (h : w.ownsRow base e s v n xs) (hn : slN v = false) : ∃ c, w.heap[slB v]? = some (.cells c e (0, 0)) := by
 rcases h.2 with ⟨rfl, rfl⟩ | ⟨g, cap, cur, rfl, hb, hg, rest⟩
 ·cases hn
 ·exact ⟨cur,hg⟩
theorem own_val {w : World} {base e s : Nat} {v : Value} {n : Nat} {xs : List Value} (h : w.ownsRow base e s v n xs) : ∃ a c, v = .slice a n c := by
 rcases h.2 with ⟨rfl, rfl⟩ | ⟨g, cap, cur, rfl, rest⟩
 ·exact ⟨none,0,rfl⟩
 ·exact ⟨_,_,rfl⟩
theorem Sl.isSlice {w : World} {s : Nat} {v : Value} {n : Nat} {xs : List Value} (h : Sl w s v n xs) : ∃ a c, v = .slice a n c := by
 rcases h.val with ⟨c, rfl, rfl⟩ | ⟨b, o, c, rfl, _⟩
 ·exact ⟨none,c,rfl⟩
 ·exact ⟨_,_,rfl⟩
theorem own_thaw {w : World} {base e s : Nat} {v : Value} {n : Nat} {xs : List Value} (h : w.ownsRow base e s v n xs) (hn : 0 < n) (j : Nat) : w.frozen? ⟨slB v, j, none⟩ = false := by
 rcases h.2 with ⟨rfl, rfl⟩ | ⟨g, cap, cur, rfl, hb, hg, rest⟩
 ·omega
 ·simp [World.frozen?,slB,hg]
theorem own_nil {w : World} {base e s : Nat} {v : Value} {n : Nat} {xs : List Value} (h : w.ownsRow base e s v n xs) (hn : 0 < n) : slN v = false := by
 rcases h.2 with ⟨rfl, rfl⟩ | ⟨g, cap, cur, rfl, hb, hg, rest⟩
 ·omega
 ·rfl
@[simp] theorem slB_slcH (v : Value) (n : Nat) : slB (slcH v n) = slB v := by
 cases v with
 | slice a _ _ => cases a <;> rfl
 | _ => rfl
@[simp] theorem slO_slcH (v : Value) (n : Nat) : slO (slcH v n) = slO v := by
 cases v with
 | slice a _ _ => cases a <;> rfl
 | _ => rfl
@[simp] theorem slN_slcH (v : Value) (n : Nat) : slN (slcH v n) = slN v := by
 cases v with
 | slice a _ _ => cases a <;> rfl
 | _ => rfl
theorem own_lower {w : World} {base base' e s : Nat} {v : Value} {n : Nat} {xs : List Value} (h : w.ownsRow base e s v n xs) (hb : base' ≤ base) : w.ownsRow base' e s v n xs := by
 refine ⟨h.1,?_⟩
 rcases h.2 with hn | ⟨g, cap, cur, rfl, hb', rest⟩
 ·exact .inl hn
 ·exact .inr ⟨g,cap,cur,rfl,by omega,rest⟩
theorem Sl.made (w : World) (cs : List Value) (t : TypeId) (s n : Nat) (h : cs.length = n * s) : Sl (w.alloc (.cells cs.toArray t)) s (.slice (some ⟨w.heap.size, 0, none⟩) n n) n cs :=
 ⟨h,.inr ⟨_,_,_,rfl,Nat.le_refl _⟩,fun j x hj => by simp [slB,slO,hj]⟩
theorem Sl.one (w : World) (u : Value) (t : TypeId) : Sl (w.alloc (.cells #[u] t)) 1 (.slice (some ⟨w.heap.size, 0, none⟩) 1 1) 1 [u] :=
 ⟨rfl, .inr ⟨_, _, _, rfl, Nat.le_refl _⟩, fun j x hj => by
  cases j with
  | zero => simp at hj; subst hj; simp [slB,slO]
  | succ j => simp at hj⟩
theorem grown_mod {w w' : World} {v : Value} (h : w.grownBy w' v.ownBlock) : Mod (fun k => slN v = false ∧ k = slB v) w w' := by
 refine ⟨h.os,h.tape,h.output,h.size,fun k hk hn => h.block k hk ?_⟩
 intro e
 apply hn
 unfold Value.ownBlock at e
 split at e
 ·cases e; exact ⟨rfl,rfl⟩
 ·cases e
def elOk (o : Option TypeInfo) (s : Nat) : Bool :=
 match o with
 | some i => (match i.zero with | some z => i.size == s && (z.cells.size == s && (decide (i.bytes ≤ 4096) && decide (0 < s))) | none => false)
 | none => false
theorem elOk_inv {o : Option TypeInfo} {s : Nat} (h : elOk o s = true) : (∃ i z, o = some i ∧ i.zero = some z ∧ i.size = s ∧ z.cells.size = s ∧ i.bytes ≤ 4096) ∧ 0 < s := by
 unfold elOk at h
 cases o with
 | none => cases h
 | some i =>
  simp only at h
  cases hz : i.zero with
  | none => rw [hz] at h; cases h
  | some z =>
   rw [hz] at h
   simp only [Bool.and_eq_true,beq_iff_eq,decide_eq_true_eq] at h
   exact ⟨⟨i,z,rfl,hz,h.1,h.2.1,h.2.2.1⟩,h.2.2.2⟩
theorem append_own {P : Program} {w : World} {base s : Nat} {t ty : TypeId} {v : Value} {n : Nat} {xs : List Value} {v2 : Value} {m : Nat} {ys : List Value} {e : TypeId} (hs : isS (P.underlying t) = true) (he : elemT (P.underlying t) = e) (hi : elOk (P.info? e) s = true)
  (hown : w.ownsRow base e s v n xs) (h2 : Sl w s v2 m ys) (h1 : ∀ u ∈ ys,u.oneCell' = true) (hb : (n + m) ≤ 1048576) (hbase : base ≤ w.heap.size) :
  ∃ v' w', (Builtin.append_ #[t, t] ty #[v, v2]).run P w = .ok v' w' ∧ w'.ownsRow base e s v' (n + m) (xs ++ ys) ∧ Mod (fun k => slN v = false ∧ k = slB v) w w' ∧
   (slN v' = false → (slN v = false ∧ slB v' = slB v) ∨ w.heap.size ≤ slB v') := by
 obtain ⟨⟨i,z,hi1,hi2,hi3,hi4,hi5⟩,hsz⟩ := elOk_inv hi
 have hel := elemT_of (P := P) hs
 rw [he] at hel
 subst hel
 rcases h2.val with ⟨c, rfl, rfl⟩ | ⟨b, o, c, rfl, hc⟩
 ·have : ys = [] := List.eq_nil_of_length_eq_zero (by simpa using h2.len)
  subst this
  have hsrc := h2.src (P := P) hs h1
  rw [← hi3] at hsrc
  refine ⟨v,w,?_,by simpa using hown,Mod.refl _ _,fun h => .inl ⟨h,rfl⟩⟩
  rcases hown.2 with ⟨rfl, rfl⟩ | ⟨g, cap, cur, rfl, hb, hg, hc, _⟩
  ·exact run_append_nothing w t t ty (P.elem t) i (elem_of hs) hi1 none 0 0 (by omega) _ hsrc
  ·exact run_append_nothing w t t ty (P.elem t) i (elem_of hs) hi1 _ n cap hc _ hsrc
 ·obtain ⟨v', w', hr, ho, hg, _⟩ := run_append_own (P := P) w base t ty (P.elem t) i z s i.bytes (elem_of hs) hi1 hi2 hi3 rfl hi4 hsz v n xs hown ⟨b, o, none⟩ m c ys h2.len (fun j u hj => by simpa [slB, slO] using h2.at_ j u hj) h1
   (by simp only [maxLen]; omega) (by have := Nat.mul_le_mul hb hi5; omega) hbase
  refine ⟨v',w',hr,ho,grown_mod hg,?_⟩
  have hsrc := h2.src (P := P) hs h1
  rw [← hi3] at hsrc
  rcases hown.2 with ⟨rfl, rfl⟩ | ⟨g, cap, cur, rfl, hbg, hgg, hnc, hcm, hcs, htake⟩
  ·intro hn
   obtain ⟨v2, w2, hr2, ho2, _⟩ := run_append_own (P := P) w w.heap.size t ty (P.elem t) i z s i.bytes (elem_of hs) hi1 hi2 hi3 rfl hi4 hsz (.slice none 0 0) 0 [] (World.ownsRow_nil _ _ _ _) ⟨b, o, none⟩ m c ys h2.len (fun j u hj => by simpa [slB, slO] using h2.at_ j u hj) h1
    (by simp only [maxLen]; omega) (by have := Nat.mul_le_mul hb hi5; omega) (Nat.le_refl _)
   rw [hr] at hr2
   cases hr2
   exact .inr (own_ge ho2 hn)
  ·by_cases hroom : n + m ≤ cap
   ·have hlt : ∀ j, j < ys.length → n * i.size + j < cur.size := by
     intro j hj
     rw [h2.len] at hj
     rw [hcs,hi3]
     have : (n + m) * s ≤ cap * s := Nat.mul_le_mul_right _ hroom
     rw [Nat.add_mul] at this
     omega
    have hr2 := run_append_room_src (P := P) w t t ty (P.elem t) i (elem_of hs) hi1 g 0 n cap _ m ys hsrc hroom (fun j hj => by
     rw [cell_of_row w g _ cur (P.elem t) (0,0) hgg]
     simp; simpa using hlt j hj) (fun j hj => by simp [World.frozen?,hgg])
    rw [hr] at hr2
    cases hr2
    exact fun _ => .inl ⟨rfl,rfl⟩
   ·have hold : (Builtin.firstCells i.size n (.slice (some ⟨g, 0, none⟩) n cap)).run P w.drew = .ok xs.toArray w.drew :=
     run_firstCells_some w.drew i.size n ⟨g,0,none⟩ n cap xs (by rw [hi3]; exact hown.1) (fun j u hj => by simpa using hown.cells (g := g) rfl j u hj)
    have hfit : Builtin.nextslicecap (n + m) cap * i.bytes ≤ 281474976710656 := growslice_fits (by omega) (by have := Nat.mul_le_mul hb hi5; omega)
    have hr2 := run_append_grow_src (P := P) w t t ty (P.elem t) i z (elem_of hs) hi1 hi2 (some ⟨g,0,none⟩) n cap xs hold _ m ys hsrc (by omega) (by omega) hfit
    rw [hr] at hr2
    cases hr2
    exact fun _ => .inr (Nat.le_refl _)
theorem append_full {P : Program} {w : World} {s : Nat} {t ty : TypeId} {v : Value} {n : Nat} {xs : List Value} {v2 : Value} {m : Nat} {ys : List Value} {e : TypeId} (hs : isS (P.underlying t) = true) (he : elemT (P.underlying t) = e) (hi : elOk (P.info? e) s = true)
  (hv : Sl w s v n xs) (hfull : slC v = n) (h2 : Sl w s v2 m ys) (h1 : ∀ u ∈ ys,u.oneCell' = true) (hb : (n + m) ≤ 1048576) :
  ∃ v' w',(Builtin.append_ #[t,t] ty #[v,v2]).run P w = .ok v' w' ∧ Sl w' s v' (n + m) (xs ++ ys) ∧ Ext w w' ∧ (slN v' = true → slN v = true) := by
 obtain ⟨⟨i,z,hi1,hi2,hi3,hi4,hi5⟩,hsz⟩ := elOk_inv hi
 have hel := elemT_of (P := P) hs
 rw [he] at hel
 subst hel
 by_cases hm : m = 0
 ·subst hm
  have : ys = [] := List.eq_nil_of_length_eq_zero (by simpa using h2.len)
  subst this
  have hsrc := h2.src (P := P) hs h1
  rw [← hi3] at hsrc
  refine ⟨v,w,?_,by simpa using hv,Ext.refl _,fun h => h⟩
  rcases hv.val with ⟨c, rfl, rfl⟩ | ⟨b, o, c, rfl, hc⟩
  ·exact run_append_nothing w t t ty (P.elem t) i (elem_of hs) hi1 none 0 c (by omega) v2 hsrc
  ·exact run_append_nothing w t t ty (P.elem t) i (elem_of hs) hi1 _ n c hc v2 hsrc
 ·have hsrc := h2.src (P := P) hs h1
  rw [← hi3] at hsrc
  have hold : ∃ a, v = .slice a n n ∧ (Builtin.firstCells i.size n (.slice a n n)).run P w.drew = .ok xs.toArray w.drew := by
   rcases hv.val with ⟨c, rfl, rfl⟩ | ⟨b, o, c, rfl, hc⟩
   ·have : c = 0 := hfull
    subst this
    have : xs = [] := List.eq_nil_of_length_eq_zero (by simpa using hv.len)
    subst this
    exact ⟨none,rfl,run_firstCells_none _ _ _ _ _⟩
   ·have : c = n := hfull
    subst this
    exact ⟨_,rfl,run_firstCells_some w.drew i.size c ⟨b,o,none⟩ c c xs (by rw [hi3]; exact hv.len) (fun j u hj => by simpa [slB,slO] using hv.at_ j u hj)⟩
  obtain ⟨a,rfl,hold⟩ := hold
  have hfit : Builtin.nextslicecap (n + m) n * i.bytes ≤ 281474976710656 := growslice_fits (by omega) (by have := Nat.mul_le_mul hb hi5; omega)
  have hr := run_append_grow_src (P := P) w t t ty (P.elem t) i z (elem_of hs) hi1 hi2 a n n xs hold v2 m ys hsrc (by omega) (by omega) hfit
  refine ⟨_, _, hr, ⟨?_, .inr ⟨_, _, _, rfl, grownCap_ge _ _ _ _⟩, ?_⟩, ?_, fun h => by cases h⟩
  ·rw [List.length_append,hv.len,h2.len,Nat.add_mul]
  ·intro j u hj
   have hj' := (List.getElem?_eq_some_iff.1 hj).1
   simp only [slB,slO,Nat.zero_add]
   rw [cell_of_row _ w.heap.size j _ (P.elem t) (0,0) (by simpa using World.alloc_heap_new w.drew _)]
   rw [Array.getElem?_append_left (by simpa using hj')]
   simpa using hj
  ·exact ⟨rfl,rfl,rfl,by simp,fun k hk => Go.RowKit.Below.heap_alloc _ _ _ (by simpa using hk)⟩
@[simp] theorem VLt_drop (P : Program) (r : Option Nat) (ops : Array Oper) (Q : Post) (k : Nat) (o : Oper) (l : List Oper) (t) (ρ : Env) (ds : List Deferred) (w : World) :
  VLt P r ops Q (List.drop (k + 1) (o :: l)) t ρ ds w = VLt P r ops Q (List.drop k l) .mk ρ ds w := _root_.id rfl
@[simp] theorem VLt_drop0 (P : Program) (r : Option Nat) (ops : Array Oper) (Q : Post) (l : List Oper) (t) (ρ : Env) (ds : List Deferred) (w : World) :
  VLt P r ops Q (List.drop 0 l) t ρ ds w = VLt P r ops Q l .mk ρ ds w := _root_.id rfl
@[simp] theorem PLt_take (P : Program) (r : Option Nat) (ds : List Deferred) (ops : Array Oper) (w1 : World) (T : Env → Prop) (k : Nat) (o : Oper) (l : List Oper) (t) (σ : Env) :
  PLt P r ds ops w1 T (List.take (k + 1) (o :: l)) t σ = PLt P r ds ops w1 T (o :: List.take k l) .mk σ := _root_.id rfl
@[simp] theorem PLt_take0 (P : Program) (r : Option Nat) (ds : List Deferred) (ops : Array Oper) (w1 : World) (T : Env → Prop) (l : List Oper) (t) (σ : Env) :
  PLt P r ds ops w1 T (List.take 0 l) t σ = T σ := _root_.id rfl
section
variable {P : Program} {r : Option Nat} {ds : List Deferred} {Kp : World → World → Prop} {w0 : World} {ops : Array Oper} {T : Env → World → Prop}
variable {G : (Nat → Bool) → World → Prop}
end
structure Var (w : World) (b : Nat) (v : Value) : Prop where
 cell : w.cell? ⟨b,0,none⟩ = some v
 thaw : w.frozen? ⟨b,0,none⟩ = false
theorem Var.lt {w : World} {b : Nat} {v : Value} (h : Var w b v) : b < w.heap.size := World.block_lt_of_cell? w _ h.cell
theorem Var.keep {w w' : World} {b : Nat} {v : Value} (h : Var w b v) (hb : w'.heap[b]? = w.heap[b]?) : Var w' b v :=
 ⟨(World.cell?_of_block (a := ⟨b,0,none⟩) hb).trans h.cell,(World.frozen?_of_block (a := ⟨b,0,none⟩) hb).trans h.thaw⟩
theorem Var.ext {w w' : World} {b : Nat} {v : Value} (h : Var w b v) (he : Ext w w') : Var w' b v := h.keep (he.blk b h.lt)
theorem Var.mod {w w' : World} {b : Nat} {v : Value} {S : Nat → Prop} (h : Var w b v) (he : Mod S w w') (hs : ¬ S b) : Var w' b v := h.keep (he.blk b h.lt hs)
theorem Var.agr {w w' : World} {b : Nat} {v : Value} {S : Nat → Prop} (h : Var w b v) (he : Agr S w w') (hs : S b) : Var w' b v := h.keep (he.blk b h.lt hs)
theorem Var.new (w : World) (v : Value) (t : TypeId) : Var (w.alloc (.cells #[v] t)) w.heap.size v := ⟨by simp,by simp⟩
theorem Var.set {w : World} {b : Nat} {v : Value} (h : Var w b v) (u : Value) : Var (w.setCell ⟨b, 0, none⟩ u) b u := by
 exact ⟨World.cell?_setCell_same w _ _ h.cell,by simpa using h.thaw⟩
theorem Ext.drew (w : World) : Ext w w.drew := ⟨rfl,rfl,rfl,Nat.le_refl _,fun _ _ => rfl⟩
theorem Ext.putObj {a w : World} (h : Ext a w) (r : Nat) (o : Obj) (hr : a.heap.size ≤ r) : Ext a (w.putObj r o) :=
 ⟨h.os,h.tape,h.out,by simpa using h.size,fun i hi => (World.putObj_heap_other (by omega)).trans (h.blk i hi)⟩
theorem Iter.ext {α : Type} {P : Program} {g : Value} {enc : α → List Value} {S Sp : List α → Prop} {Cap : Nat → Prop} {w w1 : World} (h : Iter P g enc S Sp Cap w) (he : Ext w w1) (hc : ∀ k, Cap k → k < w.heap.size) : Iter P g enc S Sp Cap w1 := by
 intro y C0 J Jx W hA hcap
 exact h y C0 J Jx W (he.agr.trans (hA.weaken fun i hi => Nat.lt_of_lt_of_le hi he.size)) (fun k hk => ⟨hc k hk,(hcap k hk).2⟩)
theorem wrap64 (n : Int) (h0 : -9223372036854775808 ≤ n) (h1 : n ≤ 9223372036854775807) : IntKind.i64.wrap n = n := by
 simp [IntKind.wrap,IntKind.bits,IntKind.signed]; omega
theorem wrap32u (n : Int) (h0 : 0 ≤ n) (h1 : n ≤ 4294967295) : IntKind.u32.wrap n = n := by
 simp [IntKind.wrap,IntKind.bits,IntKind.signed]; omega
theorem wrap8u (n : Int) (h0 : 0 ≤ n) (h1 : n ≤ 255) : IntKind.u8.wrap n = n := by
 simp [IntKind.wrap,IntKind.bits,IntKind.signed]; omega
theorem wrap64u (n : Int) (h0 : 0 ≤ n) (h1 : n ≤ 18446744073709551615) : IntKind.u64.wrap n = n := by
 simp [IntKind.wrap,IntKind.bits,IntKind.signed]; omega
def isInt : Option TypeDesc → Bool | some (.int _) => true | _ => false
@[simp] theorem isInt_is (k : IntKind) : isInt (some (.int k)) = true := rfl
@[simp] theorem r_conv_int {P : Program} {w : World} (src dst : TypeId) (q : IntKind) (n : Int) (hs : (P.underlying src).isSome = true) (hd : isInt (P.underlying dst) = true) :
  (convert src dst (.int q n)).run P w = .ok (.int (intT (P.underlying dst)) ((intT (P.underlying dst)).wrap n)) w := by
 obtain ⟨ds,hds⟩ := Option.isSome_iff_exists.1 hs
 cases hdd : P.underlying dst with
 | none => rw [hdd] at hd; cases hd
 | some d =>
  cases d with
  | int k => simp [convert,run_und hds,run_und hdd,Conv.intToInt]
  | _ => rw [hdd] at hd; cases hd
@[simp] theorem gdv_undef (b : Bool) : gdv undef b = false := rfl
attribute [simp] Instr.build Instr.fill resultsE Go.Lib.run_min_ints Go.Lib.run_max_ints
def idxs : Nat → List (Nat × Value) → Bool
 | _,[] => true
 | i,p :: ps => p.1 == i && idxs (i + 1) ps
@[simp] theorem idxs_nil (i : Nat) : idxs i [] = true := rfl
@[simp] theorem idxs_cons (i : Nat) (p : Nat × Value) (ps : List (Nat × Value)) : idxs i (p :: ps) = (p.1 == i && idxs (i + 1) ps) := rfl
theorem idxs_zip : ∀ (i : Nat) (ps : List (Nat × Value)), idxs i ps = true → ps = ((ps.map (·.2)).zipIdx i).map fun x => (x.2, x.1)
 | _,[],_ => rfl
 | i, p :: ps, h => by
  rw [idxs_cons,Bool.and_eq_true,beq_iff_eq] at h
  have := idxs_zip (i + 1) ps h.2
  simp only [List.map_cons,List.zipIdx_cons]
  rw [← this]
  obtain ⟨a,b⟩ := p
  simp only at h
  rw [h.1]
def bOk (n s : Nat) (ps : List (Nat × Value)) : Bool :=
 decide (ps.length = n) && (idxs 0 ps && (ps.all (fun p => p.2.cells.size == s) && (decide (0 < n * s) && decide (n * s ≤ 16777216))))
def bldS (P : Program) (w : World) (t : TypeId) (n : Nat) (ps : List (Nat × Value)) : Result Nat → Result Value → Result Value
 | .ok s _,.ok _ _ => if bOk n s ps then .ok (.slice (some ⟨w.heap.size,0,none⟩) n n) (w.alloc (.cells (ps.flatMap fun p => p.2.cells.toList).toArray (elemT (P.underlying t)))) else (Instr.buildSlice t n ps.toArray).run P w
 | _,_ => (Instr.buildSlice t n ps.toArray).run P w
@[simp] theorem bldS_ok (P : Program) (w : World) (t : TypeId) (n : Nat) (ps : List (Nat × Value)) (s : Nat) (z : Value) (w1 w2 : World) (h : bOk n s ps = true) :
  bldS P w t n ps (.ok s w1) (.ok z w2) = .ok (.slice (some ⟨w.heap.size,0,none⟩) n n) (w.alloc (.cells (ps.flatMap fun p => p.2.cells.toList).toArray (elemT (P.underlying t)))) := by
 show (if bOk n s ps = true then _ else _) = _; rw [if_pos h]
attribute [simp] bOk
@[simp] theorem r_buildSlice {P : Program} {w : World} {t : TypeId} (n : Nat) (ps : List (Nat × Value)) (hs : isS (P.underlying t) = true) :
  (Instr.buildSlice t n ps.toArray).run P w = bldS P w t n ps ((Go.sizeOf (elemT (P.underlying t))).run P w) ((zeroValue (elemT (P.underlying t))).run P w) := by
 cases hi : P.info? (elemT (P.underlying t)) with
 | none => simp [bldS,Go.sizeOf,typeInfo,hi]
 | some i =>
  cases hz : i.zero with
  | none => simp [bldS,zeroValue,Go.sizeOf,typeInfo,hi,hz]
  | some z =>
   have e1 : (Go.sizeOf (elemT (P.underlying t))).run P w = .ok i.size w := by simp [Go.sizeOf,typeInfo,hi]
   have e2 : (zeroValue (elemT (P.underlying t))).run P w = .ok z w := by simp [zeroValue,typeInfo,hi,hz]
   rw [e1,e2]
   unfold bldS
   by_cases hb : bOk n i.size ps = true
   ·simp only [hb,if_true]
    have h := hb
    unfold bOk at h
    simp only [Bool.and_eq_true,decide_eq_true_eq,List.all_eq_true,beq_iff_eq] at h
    obtain ⟨h1,h2,h3,h5,h6⟩ := h
    have hpos : 0 < i.size := Nat.pos_of_mul_pos_left h5
    refine run_buildSlice w t _ n ps.toArray _ i z (isS_inv hs) hi hz (by omega) (by omega) ?_
    have := idxs_zip 0 ps h2
    have hf := Go.Great.fill_whole hpos (ps.map (·.2)) ((Array.range (n * i.size)).map (z.cells[· % z.cells.size]!)) (fun v hv => by
     obtain ⟨p,hp,rfl⟩ := List.mem_map.1 hv
     exact h3 p hp) (by simp [h1])
    rw [← this] at hf
    rw [List.flatMap_map] at hf
    exact hf
   ·simp only [hb]; rfl
end Pk