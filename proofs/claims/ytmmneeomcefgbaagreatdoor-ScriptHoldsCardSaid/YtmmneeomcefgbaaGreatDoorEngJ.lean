/-
 The engine,part J: a range over a map.
-/
import Derived.Test.YtmmneeomcefgbaaGreatDoorEngF
import Derived.Maps.Range
import Derived.Sort.AssemblyPlain
namespace Pk
open Go
def MIter {κ ν : Type} (ek : κ → Value) (ew : ν → Value) (w : World) (b r : Nat) (m : List (κ × ν)) (idxs : List Nat) : Prop :=
 ∃ es clock seen, w.heap[r]? = some (.map es clock) ∧ es.toList.map (fun e => (e.key, e.val)) = m.map (fun p => (ek p.1, ew p.2)) ∧ (es.toList.map (·.born)).Pairwise (· < ·) ∧ (∀ e ∈ es.toList, e.born < clock) ∧
  w.heap[b]? = some (.mapIter (some r) clock seen clock) ∧ (∀ i ∈ idxs,i < m.length) ∧ idxs.Nodup ∧ seen.toList = idxs.map (fun i => (es.toList.map (·.born)).getD i 0)
section
variable {κ ν : Type} {ek : κ → Value} {ew : ν → Value} {P : Program} {w : World} {b r : Nat} {m : List (κ × ν)} {idxs : List Nat}
theorem MIter.keep {w' : World} (h : MIter ek ew w b r m idxs) (h1 : w'.heap[r]? = w.heap[r]?) (h2 : w'.heap[b]? = w.heap[b]?) : MIter ek ew w' b r m idxs := by
 obtain ⟨es,c,s,a1,a2,a3,a4,a5,a6⟩ := h
 exact ⟨es,c,s,h1.trans a1,a2,a3,a4,h2.trans a5,a6⟩
theorem MIter.lt (h : MIter ek ew w b r m idxs) : r < w.heap.size ∧ b < w.heap.size := by
 obtain ⟨es,c,s,a1,a2,a3,a4,a5,a6⟩ := h
 exact ⟨(Array.getElem?_eq_some_iff.1 a1).1,(Array.getElem?_eq_some_iff.1 a5).1⟩
theorem MIter.mod {w' : World} {S : Nat → Prop} (h : MIter ek ew w b r m idxs) (hM : Mod S w w') (h1 : ¬ S r) (h2 : ¬ S b) : MIter ek ew w' b r m idxs := h.keep (hM.blk _ h.lt.1 h1) (hM.blk _ h.lt.2 h2)
theorem MapAt.range (h : MapAt ek ew w r m) {T K E : TypeId} (hT : P.underlying T = some (.map K E)) :
  ∃ o,(Instr.range T (.map (some r))).run P w = .ok (.pointer (some ⟨w.heap.size,0,none⟩)) (w.alloc o) ∧ MIter ek ew (w.alloc o) w.heap.size r m [] := by
 have hlt := h.lt
 obtain ⟨⟨es,c,h1,h2,h3,h4⟩,h5⟩ := h
 exact ⟨_,run_range_map w T K E r es c hT h1,es,c,#[],((Ext.refl w).alloc _).obj h1,h2,h3,h4,World.alloc_heap_new w _,by simp,List.nodup_nil,rfl⟩
theorem MIter.next (h : MIter ek ew w b r m idxs) (ty : TypeId) :
  (idxs.Perm (List.range m.length) ∧ (Instr.next (.pointer (some ⟨b,0,none⟩)) false ty).run P w = .ok (.tuple #[.bool false]) w) ∨
  ∃ (i : Nat) (p : κ × ν) (w' : World), m[i]? = some p ∧ i ∉ idxs ∧ (Instr.next (.pointer (some ⟨b, 0, none⟩)) false ty).run P w = .ok (.tuple #[.bool true, ek p.1, ew p.2]) w' ∧ MIter ek ew w' b r m (idxs ++ [i]) ∧ Mod (· = b) w w' ∧
   (Instr.entry (.pointer (some ⟨b,0,none⟩))).run P w' = .ok (.tuple #[ek p.1,ew p.2]) w' ∧ w'.heap.size = w.heap.size := by
 obtain ⟨es,c,s,a1,a2,a3,a4,a5,a6,a7,a8⟩ := h
 have hlen : es.toList.length = m.length := by have := congrArg List.length a2; simpa using this
 have hbn : (es.toList.map (·.born)).Nodup := a3.imp (fun h => by omega)
 have hseen : ∀ i (hi : i < es.toList.length), s.contains (es.toList[i]).born = true ↔ i ∈ idxs := by
  intro i hi
  rw [← Array.contains_toList,a8,List.contains_iff_mem,List.mem_map]
  constructor
  ·rintro ⟨j,hj,e⟩
   have hjl := a6 j hj
   have : (es.toList.map (·.born))[j]'(by simp; rw [← Array.length_toList]; omega) = (es.toList.map (·.born))[i]'(by simpa using hi) := by
    rw [List.getD_eq_getElem?_getD,List.getElem?_eq_getElem (by rw [List.length_map]; omega)] at e
    simpa using e
   have := (List.getElem_inj hbn).1 this
   rwa [← this]
  ·intro hi'
   refine ⟨i,hi',?_⟩
   rw [List.getD_eq_getElem?_getD,List.getElem?_map,List.getElem?_eq_getElem hi]; rfl
 rcases run_next_at (P := P) w ty b r c c s es c a5 a1 a4 (Nat.le_refl _) with ⟨h0, hrun⟩ | ⟨e, he, w1, hal, hrun⟩
 ·left
  refine ⟨(List.perm_ext_iff_of_nodup a7 List.nodup_range).2 fun i => ⟨fun hi => by simpa using a6 i hi,fun hi => ?_⟩,hrun⟩
  have hi' : i < es.toList.length := by rw [hlen]; simpa using hi
  refine (hseen i hi').1 ?_
  exact all_seen es s h0 _ (List.getElem_mem hi')
 ·right
  obtain ⟨hem,hes⟩ := Go.mem_left he
  obtain ⟨i,hi,rfl⟩ := List.mem_iff_getElem.1 hem
  have him : i < m.length := by omega
  have hkv : ((es.toList[i]).key, (es.toList[i]).val) = (ek m[i].1, ew m[i].2) := by
   have := congrArg (·[i]?) a2
   simp only [List.getElem?_map,List.getElem?_eq_getElem hi,List.getElem?_eq_getElem him,Option.map_some,Option.some.injEq] at this
   exact this
  have hk := congrArg Prod.fst hkv
  have hv := congrArg Prod.snd hkv
  simp only at hk hv
  rw [hk,hv] at hrun
  have hne : b ≠ r := by
   rintro rfl
   rw [a1] at a5; cases a5
  have hr1 : w1.heap[b]? = some (.mapIter (some r) c s c) := by rcases hal with rfl | rfl <;> exact a5
  have hb1 : w1.heap[r]? = some (.map es c) := by rcases hal with rfl | rfl <;> exact a1
  have hset := Go.MapKept.heap_set (o' := .mapIter (some r) c (s.push (es.toList[i]).born) c) hr1
  have hb' : (Go.ChangeMaps.setBlock w1 b (.mapIter (some r) c (s.push (es.toList[i]).born) c)).heap[r]? = some (.map es c) := (hset.2 r (Ne.symm hne)).trans hb1
  have hent := run_entry_at (P := P) (Go.ChangeMaps.setBlock w1 b (.mapIter (some r) c (s.push (es.toList[i]).born) c)) b r c s es c (es.toList[i]) hset.1 hb' hem hbn
  rw [hk,hv] at hent
  have hni : i ∉ idxs := fun hc => by
   have := (hseen i hi).2 hc
   rw [hes] at this; cases this
  refine ⟨i, m[i], _, List.getElem?_eq_getElem him, hni, hrun, ⟨es, c, _, hb', a2, a3, a4, hset.1, ?_, ?_, ?_⟩, ?_, hent, ?_⟩
  ·intro j hj
   rcases List.mem_append.1 hj with hj | hj
   ·exact a6 j hj
   ·rw [List.mem_singleton] at hj; omega
  ·rw [List.nodup_append]
   refine ⟨a7,by simp,fun a ha b hb => ?_⟩
   rw [List.mem_singleton] at hb
   subst hb
   rintro rfl
   exact hni ha
  ·rw [Array.toList_push,a8,List.map_append,List.map_singleton]
   congr 2
   rw [List.getD_eq_getElem?_getD,List.getElem?_map,List.getElem?_eq_getElem hi]; rfl
  ·rcases hal with rfl | rfl <;> exact ⟨rfl,rfl,rfl,by simp [Go.ChangeMaps.setBlock],fun k _ hk => hset.2 k hk⟩
  ·rcases hal with rfl | rfl <;> simp [Go.ChangeMaps.setBlock]
theorem nodup_le : ∀ (n : Nat) (l : List Nat), l.Nodup → (∀ i ∈ l, i < n) → l.length ≤ n
 | 0,[],_,_ => Nat.le_refl _
 | 0,a :: _,_,h => by have := h a (by simp); omega
 | n + 1, l, hn, h => by
  have h1 := nodup_le n (l.erase n) (hn.erase n) fun i hi => by
   have h2 := h i (List.mem_of_mem_erase hi)
   have h3 : i ≠ n := fun e => by subst e; exact (hn.not_mem_erase) hi
   omega
  have := List.length_erase_of_mem (a := n) (l := l)
  by_cases hm : n ∈ l
  ·have := this hm; omega
  ·rw [List.erase_of_not_mem hm] at h1; omega
theorem MIter.bound (h : MIter ek ew w b r m idxs) : idxs.length ≤ m.length := by
 obtain ⟨es,c,s,a1,a2,a3,a4,a5,a6,a7,a8⟩ := h
 exact nodup_le _ _ a7 a6
end
end Pk
namespace Pk
open Go
def place (v : Value) (j : Nat) : Addr := ⟨slB v,slO v + j,none⟩
end Pk
namespace Pk
open Go
def isIntV : Value → Bool | .int _ _ => true | _ => false
@[simp] theorem isIntV_int (k : IntKind) (n : Int) : isIntV (.int k n) = true := rfl
def iV (σ : Env) (o : Oper) : Bool := match o.op with
 | .binOp _ _ x y _ => isIntV (ev σ x) && isIntV (ev σ y)
 | _ => true
section
variable (σ : Env) (d : Option Tmp) (ty : TypeId) (pos : String) (af : Array Edge) (gd : Option (Nat × Bool))
@[simp ↓] theorem iV_move (x : Operand) : iV σ ⟨d,.move x,ty,pos,af,gd⟩ = true := _root_.id rfl
@[simp ↓] theorem iV_assign (x : Operand) : iV σ ⟨d,.assign x,ty,pos,af,gd⟩ = true := _root_.id rfl
@[simp ↓] theorem iV_load (t : TypeId) (x : Operand) : iV σ ⟨d,.load t x,ty,pos,af,gd⟩ = true := _root_.id rfl
@[simp ↓] theorem iV_indexAddr (t : TypeId) (x y : Operand) : iV σ ⟨d,.indexAddr t x y,ty,pos,af,gd⟩ = true := _root_.id rfl
@[simp ↓] theorem iV_nilCheck (x : Operand) : iV σ ⟨d,.nilCheck x,ty,pos,af,gd⟩ = true := _root_.id rfl
@[simp ↓] theorem iV_binOp (p : BinOp) (t t' : TypeId) (x y : Operand) : iV σ ⟨d,.binOp p t x y t',ty,pos,af,gd⟩ = (isIntV (ev σ x) && isIntV (ev σ y)) := _root_.id rfl
end
def free : Op → Bool
 | .move _ | .assign _ | .indexAddr _ _ _ => true
 | .binOp p _ _ _ _ => match p with | .add | .sub | .mul => true | _ => false
 | _ => false
def Calm {α : Type} (s : Sem α) : Prop := ∀ P w v w',s.run P w = .ok v w' → ∀ W,s.run P W = .ok v W
def Never {α : Type} (s : Sem α) : Prop := ∀ P w v w',s.run P w = .ok v w' → False
theorem Never.calm {α : Type} {s : Sem α} (h : Never s) : Calm s := fun P w v w' e => (h P w v w' e).elim
theorem calm_pure {α : Type} (a : α) : Calm (pure a : Sem α) := fun P w v w' e W => by
 rw [Sem.run_pure] at e ⊢; cases e; rfl
theorem calm_bind {α β : Type} {s : Sem α} {f : α → Sem β} (hs : Calm s) (hf : ∀ a, Calm (f a)) : Calm (s >>= f) := fun P w v w' e W => by
 rw [Sem.run_bind] at e ⊢
 cases h : s.run P w with
 | ok a w1 => rw [h] at e; rw [hs P w a w1 h W]; exact hf a P w1 v w' e W
 | halt x w1 => rw [h] at e; cases e
theorem never_bind {α β : Type} {s : Sem α} {f : α → Sem β} (hf : ∀ a, Never (f a)) : Never (s >>= f) := fun P w v w' e => by
 rw [Sem.run_bind] at e
 cases h : s.run P w with
 | ok a w1 => rw [h] at e; exact hf a P w1 v w' e
 | halt x w1 => rw [h] at e; cases e
theorem never_stuck {α : Type} (m : String) : Never (stuck m : Sem α) := fun P w v w' e => by cases e
theorem never_unsupported {α : Type} (m) : Never (unsupported m : Sem α) := fun P w v w' e => by cases e
theorem never_rt {α : Type} (x y : Int) (s : Bool) (c : BoundsCode) : Never (runtimePanic (.bounds x y s c) : Sem α) := fun P w v w' e => by cases e
theorem never_bounds {α : Type} (k : IntKind) (x y : Int) (c : BoundsCode) : Never (boundsPanic k x y c : Sem α) := by
 unfold boundsPanic
 dsimp only
 split
 ·exact never_bind fun s => never_rt _ _ _ _
 ·exact never_bind fun s => never_rt _ _ _ _
theorem calm_und (t : TypeId) : Calm (underlying t) := fun P w v w' e W => by
 cases h : P.underlying t with
 | none => simp [underlying,program,Sem.run,h] at e
 | some d => rw [run_und h] at e ⊢; cases e; rfl
theorem calm_info (t : TypeId) : Calm (typeInfo t) := fun P w v w' e W => by
 cases h : P.info? t with
 | none => simp [typeInfo,program,Sem.run,h] at e
 | some d => simp [typeInfo,program,Sem.run,h] at e ⊢; exact e.1
theorem calm_size (t : TypeId) : Calm (Go.sizeOf t) := calm_bind (calm_info t) fun _ => calm_pure _
theorem calm_asInt (v : Value) : Calm (asIntOf v) := by
 unfold asIntOf
 split
 ·exact calm_pure _
 ·exact (never_unsupported _).calm
 ·exact (never_stuck _).calm
theorem calm_addr (v : Value) : Calm (Instr.sureAddr v) := by
 unfold Instr.sureAddr
 split
 ·exact calm_pure _
 ·exact (never_stuck _).calm
theorem calm_index (t : TypeId) (x i : Value) : Calm (Instr.indexAt t x i) := by
 unfold Instr.indexAt
 refine calm_bind (calm_asInt i) fun kn => ?_
 obtain ⟨k,n⟩ := kn
 refine calm_bind (calm_und t) fun u => ?_
 dsimp only
 have hj : ∀ (b : Option Addr) (l : Nat) (e : TypeId), Calm (do
   let __do_lift ← underlying t
   have tiny : Bool := decide (l ≤ 1) && match __do_lift with | TypeDesc.array len elem => true | x => false
   match b with
    | some a =>
     if 0 ≤ n ∧ n < ↑l then do
      let __do_lift ← Go.sizeOf e
      pure (Value.pointer (some (a.add (n.toNat * __do_lift))))
     else
      if tiny = true then unsupported (Unsupported.noEntry "op/indexAddr.an index out of range at an array of length 0 or 1 (ledger 616)")
      else boundsPanic k n (↑l) BoundsCode.index
    | none => boundsPanic k n 0 BoundsCode.index : Sem Value) := by
  intro b l e
  refine calm_bind (calm_und t) fun u' => ?_
  dsimp only
  cases b with
  | none => exact (never_bounds _ _ _ _).calm
  | some a =>
   dsimp only
   by_cases h : 0 ≤ n ∧ n < ↑l
   ·rw [if_pos h]; exact calm_bind (calm_size _) fun _ => calm_pure _
   ·rw [if_neg h]
    split <;> split <;> first | exact (never_unsupported _).calm | exact (never_bounds _ _ _ _).calm
 split
 ·exact calm_bind (calm_addr _) fun a => calm_bind (calm_pure _) fun q => hj q.1 q.2.1 q.2.2
 ·exact calm_bind (calm_pure _) fun q => hj q.1 q.2.1 q.2.2
 ·exact calm_bind (never_stuck _).calm fun q => hj q.1 q.2.1 q.2.2
def PS (P : Program) (r : Option Nat) (ds : List Deferred) (ops : Array Oper) (w1 : World) (T : Env → Prop) : List Oper → Env → Prop
 | [],σ => T σ
 | o :: os,σ => GI (gw ops σ o.guard) (iV σ o = true ∧ VO P r o (fun ρ'' ds'' w'' => (ds'' = ds ∧ w'' = w1) ∧ PS P r ds ops w1 T os ρ'') (fun _ _ _ _ => False) σ ds w1) (PS P r ds ops w1 T os (put σ o.dst undef))
def PSt (P : Program) (r : Option Nat) (ds : List Deferred) (ops : Array Oper) (w1 : World) (T : Env → Prop) (l : List Oper) (_ : Tok (PProd.mk ops (PProd.mk T l))) (σ : Env) : Prop := PS P r ds ops w1 T l σ
@[simp ↓] theorem PS_tok (P : Program) (r : Option Nat) (ds : List Deferred) (ops : Array Oper) (w1 : World) (T : Env → Prop) (l : List Oper) (σ : Env) : PS P r ds ops w1 T l σ = PSt P r ds ops w1 T l .mk σ := _root_.id rfl
@[simp] theorem PSt_nil (P : Program) (r : Option Nat) (ds : List Deferred) (ops : Array Oper) (w1 : World) (T : Env → Prop) (t) (σ : Env) : PSt P r ds ops w1 T [] t σ = T σ := _root_.id rfl
@[simp] theorem PSt_cons (P : Program) (r : Option Nat) (ds : List Deferred) (ops : Array Oper) (w1 : World) (T : Env → Prop) (o : Oper) (os : List Oper) (t) (σ : Env) :
  PSt P r ds ops w1 T (o :: os) t σ = GIt (gw ops σ o.guard) (iV σ o = true ∧ VO P r o (fun ρ'' ds'' w'' => (ds'' = ds ∧ w'' = w1) ∧ PS P r ds ops w1 T os ρ'') (fun _ _ _ _ => False) σ ds w1) (PS P r ds ops w1 T os (put σ o.dst undef)) .mk := _root_.id rfl
@[simp] theorem PSt_take (P : Program) (r : Option Nat) (ds : List Deferred) (ops : Array Oper) (w1 : World) (T : Env → Prop) (k : Nat) (o : Oper) (l : List Oper) (t) (σ : Env) :
  PSt P r ds ops w1 T ((o :: l).take (k + 1)) t σ = PSt P r ds ops w1 T (o :: l.take k) .mk σ := _root_.id rfl
@[simp] theorem PSt_take0 (P : Program) (r : Option Nat) (ds : List Deferred) (ops : Array Oper) (w1 : World) (T : Env → Prop) (l : List Oper) (t) (σ : Env) :
  PSt P r ds ops w1 T (l.take 0) t σ = T σ := _root_.id rfl
section
variable {P : Program} {r : Option Nat} {ds : List Deferred} {ops : List Oper} {w1 : World} {T : Env → Prop} {m : Nat} {bs : List (List Nat)}
end
end Pk
namespace Pk
open Go
def at_ (d : Array Int) (j : Nat) : Int := d[j]!
section
variable {q : IntKind} {w : World} {v : Value} {d : Array Int} {P : Program} {t : TypeId}
def Dr (w W : World) : Prop := W = w.drew
theorem Ext.dr {w0 w W : World} (h : Ext w0 w) (hd : Dr w W) : Ext w0 W := by rw [hd]; exact h.trans (Ext.drew w)
section
variable {r : Option Nat} {ds : List Deferred} {ops : List Oper}
end
end
section
variable (lt : Int → Int → Bool)
end
def andI (k : IntKind) (a b : Int) : Int := k.wrap (BitVec.ofInt k.bits a &&& BitVec.ofInt k.bits b).toNat
def orI (k : IntKind) (a b : Int) : Int := k.wrap (BitVec.ofInt k.bits a ||| BitVec.ofInt k.bits b).toNat
def shlI (k : IntKind) (a b : Int) : Int := k.wrap (a * 2 ^ (min b.toNat k.bits))
def shrI (k : IntKind) (a b : Int) : Int := a.fdiv (2 ^ (min b.toNat k.bits))
section
variable (P : Program) (w : World) (t : TypeId)
@[simp] theorem b_and (k : IntKind) (a b : Int) : (binOp .and t (.int k a) (.int k b)).run P w = .ok (.int k (andI k a b)) w := by simp [binOp,Op.intBits,andI]
@[simp] theorem b_or (k : IntKind) (a b : Int) : (binOp .or t (.int k a) (.int k b)).run P w = .ok (.int k (orI k a b)) w := by simp [binOp,Op.intBits,orI]
@[simp] theorem b_shl (k yk : IntKind) (a b : Int) (h : 0 ≤ b) : (binOp .shl t (.int k a) (.int yk b)).run P w = .ok (.int k (shlI k a b)) w := by
 have : ¬ b < 0 := by omega
 simp [binOp,Op.shift,shlI,this]
@[simp] theorem b_shr (k yk : IntKind) (a b : Int) (h : 0 ≤ b) : (binOp .shr t (.int k a) (.int yk b)).run P w = .ok (.int k (shrI k a b)) w := by
 have : ¬ b < 0 := by omega
 simp [binOp,Op.shift,shrI,this]
end
theorem shlI_one {n : Nat} (h : n < 64) : shlI .u64 1 (n : Int) = ((2 ^ n : Nat) : Int) := by
 unfold shlI
 have e : min (n : Int).toNat IntKind.u64.bits = n := by simp [IntKind.bits]; omega
 rw [e]
 have : 2 ^ n < 2 ^ 64 := Nat.pow_lt_pow_right (by decide) h
 have hc : (1 * 2 ^ n : Int) = ((2 ^ n : Nat) : Int) := by rw [Int.one_mul,Int.natCast_pow]; rfl
 rw [hc]
 generalize 2 ^ n = N at this ⊢
 rw [wrap64u _ (by omega) (by omega)]
section
variable (lt : Int → Int → Bool)
end
section
variable (p : Int → Bool)
end
theorem with_tail {T G : Prop} (h1 : T → G) (h2 : T) : G := h1 h2
end Pk
namespace Pk
open Go
variable {base : Nat} {X : Nat → Bool} {e : TypeId} {s : Nat} {Z : List Value}
end Pk
namespace Pk
open Go
theorem calm_zero (t : TypeId) : Calm (zeroValue t) := by
 unfold zeroValue
 refine calm_bind (calm_info t) fun i => ?_
 split
 ·exact calm_pure _
 ·exact (never_unsupported _).calm
theorem calm_isAgg (t : TypeId) : Calm (isAgg t) := by
 unfold isAgg
 refine calm_bind (calm_und t) fun u => ?_
 split <;> exact calm_pure _
theorem calm_asBool (v : Value) : Calm (asBool v) := by
 unfold asBool
 split
 ·exact calm_pure _
 ·exact (never_stuck _).calm
theorem calm_asAgg (v : Value) : Calm (asAgg v) := by
 unfold asAgg
 split
 ·exact calm_pure _
 ·exact (never_stuck _).calm
theorem calm_part (t : TypeId) (cs : Array Value) (off : Nat) : Calm (part t cs off) := by
 unfold part
 refine calm_bind (calm_isAgg t) fun b => ?_
 split
 ·exact calm_bind (calm_size t) fun _ => calm_pure _
 ·split
  ·exact calm_pure _
  ·exact (never_stuck _).calm
theorem calm_extract (v : Value) (i : Nat) : Calm (Instr.extract v i) := by
 unfold Instr.extract
 split
 ·split
  ·exact calm_pure _
  ·exact (never_stuck _).calm
 ·exact (never_stuck _).calm
theorem calm_field (t : TypeId) (v : Value) (f : Nat) : Calm (Instr.field t v f) := by
 unfold Instr.field
 refine calm_bind (calm_und t) fun u => ?_
 split
 ·split
  ·exact calm_bind (calm_asAgg _) fun _ => calm_part _ _ _
  ·exact (never_stuck _).calm
 ·exact (never_stuck _).calm
theorem calm_mkI (t : TypeId) (v : Value) : Calm (Instr.makeInterface t v) := by
 unfold Instr.makeInterface
 refine calm_bind (calm_und t) fun u => ?_
 split
 ·exact (never_stuck _).calm
 ·exact calm_pure _
theorem calm_bound (x : Value) (y : Nat) (c : BoundsCode) : Calm (Instr.sliceBound x y c) := by
 unfold Instr.sliceBound
 refine calm_bind (calm_asInt x) fun kn => ?_
 obtain ⟨k,n⟩ := kn
 dsimp only
 split
 ·exact calm_pure _
 ·exact (never_bounds _ _ _ _).calm
theorem calm_bounds (b : Bool) (l c : Nat) (lo hi mx : Option Value) : Calm (Instr.sliceBounds b l c lo hi mx) := by
 unfold Instr.sliceBounds
 dsimp only
 have h3 : ∀ m h : Nat, Calm (do
   let l ← match lo with
    | some v => Instr.sliceBound v h (if mx.isSome then .slice3C else .sliceB)
    | none => pure 0
   pure (l,h,m) : Sem (Nat × Nat × Nat)) := by
  intro m h
  cases lo with
  | none => exact calm_bind (calm_pure _) fun _ => calm_pure _
  | some v => exact calm_bind (calm_bound _ _ _) fun _ => calm_pure _
 have h2 : ∀ m : Nat, Calm (do
   let h ← match hi, mx with
    | some v,some _ => Instr.sliceBound v m .slice3B
    | some v,none => Instr.sliceBound v m (if b then .sliceAcap else .sliceAlen)
    | none,none => pure l
    | none, some _ => stuck "Slice: max without high"
   let l ← match lo with
    | some v => Instr.sliceBound v h (if mx.isSome then .slice3C else .sliceB)
    | none => pure 0
   pure (l,h,m) : Sem (Nat × Nat × Nat)) := by
  intro m
  cases hi <;> cases mx
  ·exact calm_bind (calm_pure _) fun h => h3 m h
  ·exact calm_bind (never_stuck _).calm fun h => h3 m h
  ·exact calm_bind (calm_bound _ _ _) fun h => h3 m h
  ·exact calm_bind (calm_bound _ _ _) fun h => h3 m h
 cases mx with
 | none => exact calm_bind (calm_pure _) fun m => h2 m
 | some v => exact calm_bind (calm_bound _ _ _) fun m => h2 m
theorem calm_sliceAt (t : TypeId) (x : Value) (lo hi mx : Option Value) : Calm (Instr.sliceAt t x lo hi mx) := by
 unfold Instr.sliceAt
 refine calm_bind (calm_und t) fun u => ?_
 split
 ·refine calm_bind (calm_addr _) fun a => calm_bind (calm_bounds _ _ _ _ _ _) fun lhm => ?_
  obtain ⟨l,h,m⟩ := lhm
  exact calm_bind (calm_size _) fun _ => calm_pure _
 ·unfold Instr.slice
  refine calm_bind (calm_und t) fun u => ?_
  dsimp only
  split
  ·split
   ·exact calm_bind (never_stuck _).calm fun _ => calm_bind (calm_bounds _ _ _ _ _ _) fun lhm => calm_pure _
   ·exact calm_bind (calm_bounds _ _ _ _ _ _) fun lhm => calm_pure _
  ·exact calm_bind (calm_bounds _ _ _ _ _ _) fun lhm => calm_bind (calm_size _) fun _ => calm_pure _
  ·refine calm_bind ?_ fun a => calm_bind (calm_und _) fun u' => ?_
   ·unfold asAddr
    split
    ·exact calm_pure _
    ·exact (show Never (runtimePanic .nilDeref : Sem Addr) from fun P w v w' e => by cases e).calm
    ·exact (never_stuck _).calm
   ·split
    ·exact calm_bind (calm_bounds _ _ _ _ _ _) fun lhm => calm_bind (calm_size _) fun _ => calm_pure _
    ·exact (never_stuck _).calm
  ·exact (never_stuck _).calm
theorem calm_len {P : Program} {t ty : TypeId} {v : Value} (h : (isS (P.underlying t) || isStr (P.underlying t)) = true) {w w' : World} {u : Value} (e : (Builtin.len_ #[t] ty #[v]).run P w = .ok u w') (W : World) : (Builtin.len_ #[t] ty #[v]).run P W = .ok u W := by
 rw [Bool.or_eq_true] at h
 rcases h with h | h
 ·have hu := fun W => run_und (P := P) (isS_inv h) W
  cases v with
  | slice a n c => simp [Builtin.len_,hu] at e ⊢; exact e.1
  | _ => simp [Builtin.len_,hu] at e
 ·have hu := fun W => run_und (P := P) (isStr_inv h) W
  cases v with
  | string a => simp [Builtin.len_,hu] at e ⊢; exact e.1
  | _ => simp [Builtin.len_,hu] at e
theorem calm_forM {α : Type} (l : List α) (f : α → Sem (Nat × Nat)) (h : ∀ a, Calm (f a)) : Calm (l.mapM f) := by
 induction l with
 | nil => exact calm_pure _
 | cons a l ih =>
  rw [List.mapM_cons]
  exact calm_bind (h a) fun _ => calm_bind ih fun _ => calm_pure _
theorem calm_build (t : TypeId) (ps : Array (Nat × Value)) : Calm (Instr.build t ps) := by
 unfold Instr.build
 refine calm_bind (calm_zero t) fun z => ?_
 refine calm_bind (calm_und t) fun u => ?_
 split
 ·refine calm_bind ?_ fun places => ?_
  ·rename_i fields
   obtain ⟨fields⟩ := fields
   rw [List.mapM_toArray]
   have := calm_forM fields (fun f => do pure (f.offset,← Go.sizeOf f.type)) fun f => calm_bind (calm_size _) fun _ => calm_pure _
   intro P w v w' e W
   rw [Sem.run_map] at e ⊢
   cases hr : (fields.mapM (fun f => (do pure (f.offset,← Go.sizeOf f.type) : Sem (Nat × Nat)))).run P w with
   | ok a w1 => rw [hr] at e; rw [this P w a w1 hr W]; cases e; rfl
   | halt x w1 => rw [hr] at e; cases e
  ·split
   ·exact calm_pure _
   ·exact (never_stuck _).calm
 ·refine calm_bind (calm_size _) fun _ => ?_
  split
  ·exact calm_pure _
  ·exact (never_stuck _).calm
 ·exact (never_stuck _).calm
def bV : Value → Value → Bool
 | .int _ _,.int _ _ => true
 | .bool _,.bool _ => true
 | .string _,.string _ => true
 | .pointer none,.pointer none => true
 | .pointer none,.pointer (some _) => true
 | .pointer (some _),.pointer none => true
 | .slice none _ _,.slice _ _ _ => true
 | .slice (some _) _ _,.slice none _ _ => true
 | .map none,.map _ => true
 | .map (some _),.map none => true
 | .nilFunc,.nilFunc => true
 | .nilFunc,.func _ _ _ => true
 | .func _ _ _,.nilFunc => true
 | _,_ => false
section
variable (a b : Option Addr) (k k' : IntKind) (m n : Int) (x y : Bool) (s t : ByteArray) (l c l' c' : Nat) (r : Option Nat) (f : Fn) (p q : Array Value)
@[simp] theorem bV_int : bV (.int k m) (.int k' n) = true := rfl
@[simp] theorem bV_bool : bV (.bool x) (.bool y) = true := rfl
@[simp] theorem bV_str : bV (.string s) (.string t) = true := rfl
@[simp] theorem bV_nf : bV .nilFunc .nilFunc = true := rfl
@[simp] theorem bV_f : bV (.func f p q) .nilFunc = true := rfl
end
theorem never_div {α : Type} : Never (runtimePanic (.error "integer divide by zero") : Sem α) := fun P w v w' e => by cases e
theorem never_shift {α : Type} : Never (runtimePanic (.error "negative shift amount") : Sem α) := fun P w v w' e => by cases e
theorem calm_shift (p : BinOp) (k yk : IntKind) (a b : Int) : Calm (Op.shift p k a yk b) := by
 unfold Op.shift
 split
 ·exact never_shift.calm
 ·dsimp only
  split
  ·exact calm_pure _
  ·exact calm_pure _
  ·exact (never_stuck _).calm
theorem calm_ints (p : BinOp) (t : TypeId) (k k' : IntKind) (a b : Int) : Calm (binOp p t (.int k a) (.int k' b)) := by
 have arith : ∀ p, Calm (Op.intArith p k a b) := fun p => by
  unfold Op.intArith
  split <;> first | exact calm_pure _ | exact (never_stuck _).calm
 have div : ∀ p, Calm (Op.intDiv p k a b) := fun p => by
  unfold Op.intDiv
  split
  ·exact never_div.calm
  ·split <;> first | exact calm_pure _ | exact (never_stuck _).calm
 have bits : ∀ p, Calm (Op.intBits p k a b) := fun p => by
  unfold Op.intBits
  dsimp only
  split <;> first | exact calm_pure _ | exact (never_stuck _).calm
 have cmp : ∀ p, Calm (Op.intCmp p a b) := fun p => by
  unfold Op.intCmp
  split <;> first | exact calm_pure _ | exact (never_stuck _).calm
 cases p
 case shl => unfold binOp; exact calm_shift _ _ _ _ _
 case shr => unfold binOp; exact calm_shift _ _ _ _ _
 all_goals
  unfold binOp
  dsimp only
  split
  ·exact (never_stuck _).calm
  ·first | exact arith _ | exact div _ | exact bits _ | exact cmp _
theorem calm_eq (t : TypeId) {x y : Value} (h : bV x y = true) : Calm (Op.equal t x y) := by
 unfold Op.equal Op.maxDepth
 rw [show (10000 : Nat) = 9999 + 1 from rfl]
 unfold Op.equalIn
 refine calm_bind (calm_und t) fun u => ?_
 unfold bV at h
 split at h
 all_goals
  cases u
  all_goals
   first
   | exact calm_pure _
   | exact (never_stuck _).calm
   | exact (never_unsupported _).calm
   | (dsimp only; split <;> first | exact calm_pure _ | exact (never_stuck _).calm)
   | skip
 all_goals cases h
theorem calm_strs (p : BinOp) (t : TypeId) (a b : ByteArray) : Calm (binOp p t (.string a) (.string b)) := by
 have str : ∀ p, Calm (Op.stringOp p a b) := fun p => by
  unfold Op.stringOp
  dsimp only
  split
  ·split
   ·exact (never_unsupported _).calm
   ·exact calm_pure _
  all_goals first | exact calm_pure _ | exact (never_stuck _).calm
 cases p <;> (unfold binOp; exact str _)
theorem calm_binop {p : BinOp} {t : TypeId} {x y : Value} (h : bV x y = true) : Calm (binOp p t x y) := by
 unfold bV at h
 split at h
 case h_1 => exact calm_ints _ _ _ _ _ _
 case h_3 => exact calm_strs _ _ _ _
 case h_14 => cases h
 all_goals
  cases p <;> unfold binOp <;> first
   | exact calm_bind (calm_eq _ rfl) fun _ => calm_pure _
   | exact calm_bind (calm_eq _ (by simp)) fun _ => calm_pure _
   | exact (never_stuck _).calm
   | exact (never_unsupported _).calm
   | skip
theorem calm_guard2 {p : BinOp} {t : TypeId} {x y : Operand} {a b : Value} (h : bV a b = true) : Calm (eqGuard p t x y a b) := by
 unfold eqGuard
 unfold bV at h
 split at h
 case h_14 => cases h
 all_goals (cases p <;> exact calm_pure _)
def ldOk (P : Program) (X : Nat → Bool) (w : World) (t : TypeId) : Value → Bool
 | .pointer (some a) => !X a.block && (List.range (P.cellsOf t)).all fun j => (w.cell? (a.add j)).isSome
 | _ => false
theorem load_alike {P : Program} {X : Nat → Bool} {a : Addr} {w w' W : World} {v : Value} (hx : X a.block = false) (hc : (w.cell? a).isSome = true) (hA : Agr (fun k => k < w.heap.size ∧ X k = false) w W) (h : (load a).run P w = .ok v w') : (load a).run P W = .ok v W := by
 obtain ⟨u,hu⟩ := Option.isSome_iff_exists.1 hc
 have hW := hA.cell hu ⟨World.block_lt_of_cell? _ _ hu,hx⟩
 simp [load,Sem.run,hu] at h
 simp [load,Sem.run,hW,h.1]
theorem add_block (a : Addr) (j : Nat) : (a.add j).block = a.block := by unfold Addr.add; split <;> rfl
theorem loads_alike {P : Program} {X : Nat → Bool} {a : Addr} {w W : World} (hx : X a.block = false) (hA : Agr (fun k => k < w.heap.size ∧ X k = false) w W) : ∀ (n i : Nat) (acc : Array Value) (w' : World) (v : Array Value), (∀ j, i ≤ j → j < i + n → (w.cell? (a.add j)).isSome = true) →
  (loadCellsFrom a i n acc).run P w = .ok v w' → (loadCellsFrom a i n acc).run P W = .ok v W
 | 0,i,acc,w',v,_,h => by simp [loadCellsFrom] at h ⊢; exact h.1
 | n + 1, i, acc, w', v, hc, h => by
  obtain ⟨u,hu⟩ := Option.isSome_iff_exists.1 (hc i (Nat.le_refl _) (by omega))
  have hW := hA.cell hu ⟨World.block_lt_of_cell? _ _ hu,by rw [add_block]; exact hx⟩
  have e1 : (load (a.add i)).run P w = .ok u w := by simp [load,Sem.run,hu]
  have e2 : (load (a.add i)).run P W = .ok u W := by simp [load,Sem.run,hW]
  simp only [loadCellsFrom,Sem.run_bind,e1,e2,Result.andThen_ok] at h ⊢
  exact loads_alike hx hA n (i + 1) _ w' v (fun j h1 h2 => hc j (by omega) (by omega)) h
theorem loadAt_alike {P : Program} {X : Nat → Bool} {t : TypeId} {x : Value} {w w' W : World} {v : Value} (hc : ldOk P X w t x = true) (hA : Agr (fun k => k < w.heap.size ∧ X k = false) w W) (h : (Instr.loadAt t x).run P w = .ok v w') (h1 : 0 < P.cellsOf t) : (Instr.loadAt t x).run P W = .ok v W := by
 cases x with
 | pointer p =>
  cases p with
  | none => cases hc
  | some a =>
   have hc' := Bool.and_eq_true_iff.1 hc
   have hx : X a.block = false := by simpa using hc'.1
   have hcell : ∀ j,j < P.cellsOf t → (w.cell? (a.add j)).isSome = true := fun j hj => List.all_eq_true.1 hc'.2 j (by simpa using hj)
   simp only [Instr.loadAt,Instr.sureAddr,loadVar,Sem.run_bind,Sem.run_pure,Result.andThen_ok] at h ⊢
   cases hg : (isAgg t).run P w with
   | halt e w2 => rw [hg] at h; cases h
   | ok b w2 =>
    rw [hg] at h
    have hw2 : w2 = w := by
     have := calm_isAgg t P w b w2 hg w
     rw [hg] at this; cases this; rfl
    subst hw2
    rw [calm_isAgg t P w2 b w2 hg W]
    simp only [Result.andThen_ok] at h ⊢
    cases b with
    | true =>
     simp only [if_true,Sem.run_bind] at h ⊢
     cases hz : (Go.sizeOf t).run P w2 with
     | halt e w3 => rw [hz] at h; cases h
     | ok n w3 =>
      rw [hz] at h
      have hw3 : w3 = w2 := by
       have := calm_size t P w2 n w3 hz w2
       rw [hz] at this; cases this; rfl
      subst hw3
      rw [calm_size t P w3 n w3 hz W]
      have hn : n = P.cellsOf t := by
       unfold Program.cellsOf
       cases hi : P.info? t with
       | none => simp [Go.sizeOf,typeInfo,program,Sem.run,hi] at hz
       | some i => simp [Go.sizeOf,typeInfo,program,Sem.run,hi] at hz; simp [hz]
      simp only [Result.andThen_ok,loadCells] at h ⊢
      cases hl : (loadCellsFrom a 0 n #[]).run P w3 with
      | halt e w4 => rw [hl] at h; cases h
      | ok vs w4 =>
       rw [hl] at h
       rw [loads_alike hx hA n 0 #[] w4 vs (fun j _ hj => hcell j (by omega)) hl]
       simp at h ⊢
       exact h.1
    | false =>
     simp only [Bool.false_eq_true,if_false] at h ⊢
     have h0 : a.add 0 = a := by unfold Addr.add; split <;> simp_all
     exact load_alike hx (by have := hcell 0 h1; rwa [h0] at this) hA h
 | _ => cases hc
def lenArg : Array TypeId → Option TypeId
 | ⟨[t]⟩ => some t
 | _ => none
def fieldSz (P : Program) (s : TypeId) (f : Nat) : Bool :=
 match P.underlying s with
 | some (.struct fields) => (match fields[f]? with | some fl => decide (0 < P.cellsOf fl.type) | none => false)
 | _ => false
def autoOp (P : Program) : Op → Bool
 | .move _ | .assign _ | .pick _ _ _ | .makeFunc _ _ _ | .indexAddr _ _ _ | .binOp _ _ _ _ _ | .extract _ _ | .field _ _ _ | .makeInterface _ _ | .slice _ _ _ _ _ | .build _ _ | .nilCheck _ => true
 | .unOp .not _ _ => true
 | .fieldAddr s _ f => fieldSz P s f
 | .load t _ => decide (0 < P.cellsOf t)
 | .convert s d _ => isInt (P.underlying d) && isInt (P.underlying s)
 | .call ⟨.builtin .min,_,_⟩ => true
 | .call ⟨.builtin .max,_,_⟩ => true
 | .call ⟨.builtin .len,args,ats⟩ => args.size == 1 && (match lenArg ats with | some t => isS (P.underlying t) || isStr (P.underlying t) | none => false)
 | _ => false
def cV (σ : Env) : Call → Bool
 | ⟨.builtin .min,args,_⟩ => args.toList.all fun x => isIntV (ev σ x)
 | ⟨.builtin .max,args,_⟩ => args.toList.all fun x => isIntV (ev σ x)
 | _ => true
theorem cV_env {σ σ' : Env} {c : Call} (h : ∀ z ∈ c.operands, ev σ z = ev σ' z) : cV σ c = cV σ' c := by
 have key : ∀ args : Array Operand, (∀ z ∈ args, ev σ z = ev σ' z) → (args.toList.all fun x => isIntV (ev σ x)) = (args.toList.all fun x => isIntV (ev σ' x)) := by
  intro args ha
  rw [Bool.eq_iff_iff,List.all_eq_true,List.all_eq_true]
  exact ⟨fun hh x hx => by rw [← ha x (Array.mem_toList_iff.1 hx)]; exact hh x hx,fun hh x hx => by rw [ha x (Array.mem_toList_iff.1 hx)]; exact hh x hx⟩
 obtain ⟨callee,args,ats⟩ := c
 have hargs : ∀ z ∈ args,ev σ z = ev σ' z := fun z hz => h z (by unfold Call.operands; exact Array.mem_append.2 (.inr hz))
 cases callee with
 | builtin b =>
  cases b with
  | min => exact key args hargs
  | max => exact key args hargs
  | _ => rfl
 | _ => rfl
def xV (P : Program) (X : Nat → Bool) (σ : Env) (w : World) (o : Oper) : Bool := match o.op with
 | .binOp _ _ x y _ => bV (ev σ x) (ev σ y)
 | .load t x => ldOk P X w t (ev σ x)
 | .convert _ _ x => isIntV (ev σ x)
 | .call c => cV σ c
 | _ => true
section
variable (P : Program) (X : Nat → Bool) (σ : Env) (w : World) (d : Option Tmp) (ty : TypeId) (pos : String) (af : Array Edge) (gd : Option (Nat × Bool))
@[simp ↓] theorem xV_move (x : Operand) : xV P X σ w ⟨d,.move x,ty,pos,af,gd⟩ = true := _root_.id rfl
@[simp ↓] theorem xV_assign (x : Operand) : xV P X σ w ⟨d,.assign x,ty,pos,af,gd⟩ = true := _root_.id rfl
@[simp ↓] theorem xV_pick (x y z : Operand) : xV P X σ w ⟨d,.pick x y z,ty,pos,af,gd⟩ = true := _root_.id rfl
@[simp ↓] theorem xV_load (t : TypeId) (x : Operand) : xV P X σ w ⟨d,.load t x,ty,pos,af,gd⟩ = ldOk P X w t (ev σ x) := _root_.id rfl
@[simp ↓] theorem xV_convert (s t : TypeId) (x : Operand) : xV P X σ w ⟨d,.convert s t x,ty,pos,af,gd⟩ = isIntV (ev σ x) := _root_.id rfl
@[simp ↓] theorem xV_indexAddr (t : TypeId) (x y : Operand) : xV P X σ w ⟨d,.indexAddr t x y,ty,pos,af,gd⟩ = true := _root_.id rfl
@[simp ↓] theorem xV_fieldAddr (t : TypeId) (x : Operand) (f : Nat) : xV P X σ w ⟨d,.fieldAddr t x f,ty,pos,af,gd⟩ = true := _root_.id rfl
@[simp ↓] theorem xV_field (t : TypeId) (x : Operand) (f : Nat) : xV P X σ w ⟨d,.field t x f,ty,pos,af,gd⟩ = true := _root_.id rfl
@[simp ↓] theorem xV_nilCheck (x : Operand) : xV P X σ w ⟨d,.nilCheck x,ty,pos,af,gd⟩ = true := _root_.id rfl
@[simp ↓] theorem xV_extract (x : Operand) (i : Nat) : xV P X σ w ⟨d,.extract x i,ty,pos,af,gd⟩ = true := _root_.id rfl
@[simp ↓] theorem xV_unOp (p : UnOp) (t : TypeId) (x : Operand) : xV P X σ w ⟨d,.unOp p t x,ty,pos,af,gd⟩ = true := _root_.id rfl
@[simp ↓] theorem xV_slice (t : TypeId) (x : Operand) (a b c : Option Operand) : xV P X σ w ⟨d,.slice t x a b c,ty,pos,af,gd⟩ = true := _root_.id rfl
@[simp ↓] theorem xV_build (t : TypeId) (ps : Array (Nat × Operand)) : xV P X σ w ⟨d,.build t ps,ty,pos,af,gd⟩ = true := _root_.id rfl
@[simp ↓] theorem xV_mkI (t : TypeId) (x : Operand) : xV P X σ w ⟨d,.makeInterface t x,ty,pos,af,gd⟩ = true := _root_.id rfl
@[simp ↓] theorem xV_mkF (f : Fn) (a b : Array Operand) : xV P X σ w ⟨d,.makeFunc f a b,ty,pos,af,gd⟩ = true := _root_.id rfl
@[simp ↓] theorem xV_callV (f : Operand) (args : Array Operand) (ats : Array TypeId) : xV P X σ w ⟨d,.call ⟨.value f,args,ats⟩,ty,pos,af,gd⟩ = true := _root_.id rfl
@[simp ↓] theorem xV_callL (args : Array Operand) (ats : Array TypeId) : xV P X σ w ⟨d,.call ⟨.builtin .len,args,ats⟩,ty,pos,af,gd⟩ = true := _root_.id rfl
@[simp ↓] theorem xV_callMin (args : Array Operand) (ats : Array TypeId) : xV P X σ w ⟨d,.call ⟨.builtin .min,args,ats⟩,ty,pos,af,gd⟩ = args.toList.all fun x => isIntV (ev σ x) := _root_.id rfl
@[simp ↓] theorem xV_callMax (args : Array Operand) (ats : Array TypeId) : xV P X σ w ⟨d,.call ⟨.builtin .max,args,ats⟩,ty,pos,af,gd⟩ = args.toList.all fun x => isIntV (ev σ x) := _root_.id rfl
@[simp ↓] theorem xV_binOp (p : BinOp) (t t' : TypeId) (x y : Operand) : xV P X σ w ⟨d,.binOp p t x y t',ty,pos,af,gd⟩ = bV (ev σ x) (ev σ y) := _root_.id rfl
end
theorem calm_not (v : Value) : Calm (Op.unary .not v) := by
 unfold Op.unary
 split <;> first | exact calm_pure _ | exact (never_stuck _).calm | exact (never_unsupported _).calm
theorem field_alike {P : Program} {s : TypeId} {x : Value} {f : Nat} (hf : fieldSz P s f = true) {w w' : World} {v : Value} (h : (Instr.fieldAt s x f).run P w = .ok v w') (W : World) : (Instr.fieldAt s x f).run P W = .ok v W := by
 unfold fieldSz at hf
 split at hf
 ·rename_i fields hu
  split at hf
  ·rename_i fl hfl
   have hr := fun W => run_und (P := P) hu W
   have key : ∀ W, (Instr.fieldAt s x f).run P W = (do let a ← Instr.sureAddr x; pure (.pointer (some (a.add fl.offset))) : Sem Value).run P W := by
    intro W
    simp only [Instr.fieldAt,Sem.run_bind,hr,Result.andThen_ok,hfl]
    cases ha : (Instr.sureAddr x).run P W with
    | halt e w2 => rfl
    | ok a w2 =>
     simp only [Result.andThen_ok,fieldPlace,Sem.run_bind]
     have hz : ∀ W, (Go.sizeOf fl.type).run P W = .ok (P.cellsOf fl.type) W := by
      intro W
      have : 0 < P.cellsOf fl.type := by simpa using hf
      unfold Program.cellsOf at this ⊢
      cases hi : P.info? fl.type with
      | none => simp [hi] at this
      | some i => simp [Go.sizeOf,typeInfo,program,Sem.run,hi]
     have hne : P.cellsOf fl.type ≠ 0 := Nat.pos_iff_ne_zero.1 (by simpa using hf)
     rw [hz]
     simp only [Result.andThen_ok,if_neg hne,Sem.run_pure]
   rw [key] at h ⊢
   exact calm_bind (calm_addr x) (fun _ => calm_pure _) P w v w' h W
  ·cases hf
 ·cases hf
theorem alike_onR {P : Program} {s : Sem Value} {w W : World} {k k' : Value → World → Prop} (hs : ∀ v w', s.run P w = .ok v w' → s.run P W = .ok v W) (h : onR (s.run P w) k) (hk : ∀ v w', k v w' → k' v W) : onR (s.run P W) k' := by
 cases e : s.run P w with
 | ok v w' => rw [e] at h; rw [hs v w' e]; exact hk _ _ h
 | halt x w' => rw [e] at h; exact h.elim
theorem calm_pick (a b c : Value) : Calm (do pure (if ← asBool a then b else c) : Sem Value) := calm_bind (calm_asBool a) fun _ => calm_pure _
theorem calm_nilc (v : Value) : Calm (match v with | .pointer (some a) => pure (.pointer (some a)) | _ => stuck "nilCheck" : Sem Value) := by
 split
 ·exact calm_pure _
 ·exact (never_stuck _).calm
theorem conv_alike {P : Program} {s d : TypeId} {k : IntKind} {n : Int} (hd : isInt (P.underlying d) = true) (hs : isInt (P.underlying s) = true) {w w' : World} {v : Value} (h : (convert s d (.int k n)).run P w = .ok v w') (W : World) : (convert s d (.int k n)).run P W = .ok v W := by
 rw [r_conv_int s d k n (by cases hu : P.underlying s <;> simp_all [isInt]) hd] at h ⊢
 cases h; rfl
theorem fold_ints {f : Value → Value → Sem Value} (hf : ∀ k x k' y, ∃ z, f (.int k x) (.int k' y) = pure (.int k z)) : ∀ (l : List Value) (k : IntKind) (x : Int), l.all isIntV = true → ∃ z, l.foldlM f (.int k x) = pure (.int k z)
 | [],k,x,_ => ⟨x,rfl⟩
 | v :: l, k, x, h => by
  obtain ⟨h1,h2⟩ := Bool.and_eq_true_iff.1 (by simpa using h : (isIntV v && l.all isIntV) = true)
  cases v with
  | int k' y =>
   obtain ⟨z,hz⟩ := hf k x k' y
   obtain ⟨z',hz'⟩ := fold_ints hf l k z h2
   refine ⟨z',?_⟩
   rw [List.foldlM_cons,hz]
   simpa using hz'
  | _ => cases h1
theorem calm_min {ats : Array TypeId} {ty : TypeId} {args : Array Value} (h : args.toList.all isIntV = true) : Calm (Builtin.min_ ats ty args) := by
 unfold Builtin.min_
 cases hl : args.toList with
 | nil => intro P w v w' e W; simp at e
 | cons x rest =>
  rw [hl] at h
  obtain ⟨h1,h2⟩ := Bool.and_eq_true_iff.1 (by simpa using h : (isIntV x && rest.all isIntV) = true)
  cases x with
  | int k y =>
   obtain ⟨z,hz⟩ := fold_ints (f := Builtin.min2) (fun k x k' y => ⟨_,rfl⟩) rest k y h2
   simp only
   rw [hz]
   exact calm_pure _
  | _ => cases h1
theorem calm_max {ats : Array TypeId} {ty : TypeId} {args : Array Value} (h : args.toList.all isIntV = true) : Calm (Builtin.max_ ats ty args) := by
 unfold Builtin.max_
 cases hl : args.toList with
 | nil => intro P w v w' e W; simp at e
 | cons x rest =>
  rw [hl] at h
  obtain ⟨h1,h2⟩ := Bool.and_eq_true_iff.1 (by simpa using h : (isIntV x && rest.all isIntV) = true)
  cases x with
  | int k y =>
   obtain ⟨z,hz⟩ := fold_ints (f := Builtin.max2) (fun k x k' y => ⟨_,rfl⟩) rest k y h2
   simp only
   rw [hz]
   exact calm_pure _
  | _ => cases h1
theorem VO_alike {P : Program} {X : Nat → Bool} {r : Option Nat} {o : Oper} {k : Value → List Deferred → Prop} {ρ : Env} {ds : List Deferred} {w W : World} (hf : autoOp P o.op = true) (hi : xV P X ρ w o = true) (hA : Agr (fun k => k < w.heap.size ∧ X k = false) w W)
  (h : VO P r o (fun ρ'' ds'' _ => k (dv ρ'' o.dst) ds'') (fun _ _ _ _ => False) ρ ds w) : VO P r o (fun ρ'' ds'' w'' => w'' = W ∧ k (dv ρ'' o.dst) ds'') (fun _ _ _ _ => False) ρ ds W := by
 obtain ⟨dst,op,ty,pos,aft,gd⟩ := o
 have calm : ∀ {s : Sem Value}, Calm s → onR (s.run P w) (fun v _ => k (dv (put ρ dst v) dst) ds) → onR (s.run P W) (fun v w' => w' = W ∧ k (dv (put ρ dst v) dst) ds) :=
  fun hc hh => alike_onR (fun v w' e => hc P w v w' e W) hh fun v w' h' => ⟨rfl,h'⟩
 cases op with
 | move x => exact ⟨rfl,h⟩
 | assign x => exact ⟨rfl,h⟩
 | makeFunc f a b => exact ⟨rfl,h⟩
 | pick a b c => exact calm (calm_pick _ _ _) h
 | indexAddr t x i => exact calm (calm_index t _ _) h
 | extract t i => exact calm (calm_extract _ _) h
 | field t x f => exact calm (calm_field _ _ _) h
 | makeInterface t x => exact calm (calm_mkI _ _) h
 | slice t x a b c => exact calm (calm_sliceAt _ _ _ _ _) h
 | build t ps => exact calm (calm_build _ _) h
 | nilCheck x => exact calm (calm_nilc _) h
 | unOp p t x =>
  cases p with
  | not => exact calm (calm_not _) h
  | _ => cases hf
 | fieldAddr s x f => exact alike_onR (fun v w' e => field_alike hf e W) h fun v w' h' => ⟨rfl,h'⟩
 | load t x => exact alike_onR (fun v w' e => loadAt_alike hi hA e (by simpa [autoOp] using hf)) h fun v w' h' => ⟨rfl,h'⟩
 | convert s d x =>
  have hf' := Bool.and_eq_true_iff.1 hf
  have hi' : isIntV (ev ρ x) = true := hi
  have h' : onR ((convert s d (ev ρ x)).run P w) (fun v _ => k (dv (put ρ dst v) dst) ds) := h
  show onR ((convert s d (ev ρ x)).run P W) (fun v w' => w' = W ∧ k (dv (put ρ dst v) dst) ds)
  cases hx : ev ρ x with
  | int q n =>
   rw [hx] at h'
   exact alike_onR (fun v w' e => conv_alike hf'.1 hf'.2 e W) h' fun v w' h' => ⟨rfl,h'⟩
  | _ => rw [hx] at hi'; cases hi'
 | binOp p t x y t' => exact calm (calm_bind (calm_guard2 hi) fun _ => calm_binop hi) h
 | call c =>
  obtain ⟨callee,args,ats⟩ := c
  cases callee with
  | builtin b =>
   cases b with
   | len =>
    simp only [autoOp,Bool.and_eq_true,beq_iff_eq] at hf
    obtain ⟨h1,h2⟩ := hf
    obtain ⟨args⟩ := args
    match args,h1 with
    | [x], _ =>
     unfold lenArg at h2
     split at h2
     ·rename_i t ht
      split at ht
      ·cases ht
       have h' := Eq.mp (VO_builtin P r dst ty pos aft gd (fun ρ'' ds'' _ => k (dv ρ'' dst) ds'') (fun _ _ _ _ => False) ρ ds w .len [x] #[t]) h
       refine Eq.mpr (VO_builtin P r dst ty pos aft gd (fun ρ'' ds'' w'' => w'' = W ∧ k (dv ρ'' dst) ds'') (fun _ _ _ _ => False) ρ ds W .len [x] #[t]) ?_
       exact alike_onR (s := Builtin.len_ #[t] ty #[ev ρ x]) (fun v w' e => calm_len h2 e W) h' fun v w' h' => ⟨rfl,h'⟩
      ·cases ht
     ·cases h2
   | min =>
    obtain ⟨args⟩ := args
    have h' := Eq.mp (VO_builtin P r dst ty pos aft gd (fun ρ'' ds'' _ => k (dv ρ'' dst) ds'') (fun _ _ _ _ => False) ρ ds w .min args ats) h
    refine Eq.mpr (VO_builtin P r dst ty pos aft gd (fun ρ'' ds'' w'' => w'' = W ∧ k (dv ρ'' dst) ds'') (fun _ _ _ _ => False) ρ ds W .min args ats) ?_
    have hi' : args.all (fun x => isIntV (ev ρ x)) = true := hi
    exact calm (calm_min (ats := ats) (ty := ty) (args := (args.map (ev ρ)).toArray) (by simpa [Function.comp_def] using hi')) h'
   | max =>
    obtain ⟨args⟩ := args
    have h' := Eq.mp (VO_builtin P r dst ty pos aft gd (fun ρ'' ds'' _ => k (dv ρ'' dst) ds'') (fun _ _ _ _ => False) ρ ds w .max args ats) h
    refine Eq.mpr (VO_builtin P r dst ty pos aft gd (fun ρ'' ds'' w'' => w'' = W ∧ k (dv ρ'' dst) ds'') (fun _ _ _ _ => False) ρ ds W .max args ats) ?_
    have hi' : args.all (fun x => isIntV (ev ρ x)) = true := hi
    exact calm (calm_max (ats := ats) (ty := ty) (args := (args.map (ev ρ)).toArray) (by simpa [Function.comp_def] using hi')) h'
   | _ => cases hf
  | _ => cases hf
 | _ => cases hf
end Pk
namespace Pk
open Go
abbrev Fact := Value → World → Prop
def PA (P : Program) (X : Nat → Bool) (r : Option Nat) (ds : List Deferred) (ops : Array Oper) (w1 : World) (R : Env → Prop) : List Oper → List (Option Fact) → Env → Prop
 | o :: os,none :: gs,σ => GI (gw ops σ o.guard) (xV P X σ w1 o = true ∧ VO P r o (fun ρ'' ds'' w'' => (ds'' = ds ∧ w'' = w1) ∧ PA P X r ds ops w1 R os gs ρ'') (fun _ _ _ _ => False) σ ds w1) (PA P X r ds ops w1 R os gs (put σ o.dst undef))
 | o :: os,some _ :: gs,σ => PA P X r ds ops w1 R os gs (put σ o.dst undef)
 | _,_,σ => R σ
def GO (P : Program) (r : Option Nat) (ds : List Deferred) (ops : Array Oper) (w1 : World) (Kp Ks : World → World → Prop) (bs : List (List Nat)) (st : Nat) (Gs : World → Prop) (T : Env → World → Prop) : List Oper → List (Option Fact) → Nat → List (Nat × (World → Prop)) → Env → Prop
 | _ :: os,none :: gs,i,acc,σ => GO P r ds ops w1 Kp Ks bs st Gs T os gs (i + 1) acc σ
 | o :: os, some A :: gs, i, acc, σ =>
  (∀ W, Ks w1 W → (∀ p ∈ acc, (bsAt bs i).contains p.1 = true → p.2 W) →
   GI (gw ops σ o.guard) (VO P r o (fun ρ'' ds'' w'' => ds'' = ds ∧ (if i = st then Kp W w'' ∧ Gs w'' else Ks W w'') ∧ A (dv ρ'' o.dst) w'') (fun _ _ _ _ => False) σ ds W) (A undef W)) ∧
  ∀ u,GO P r ds ops w1 Kp Ks bs st Gs T os gs (i + 1) ((i,A u) :: acc) (put σ o.dst u)
 | _,_,_,acc,σ => ∀ W,Kp w1 W → Gs W → (∀ p ∈ acc,p.2 W) → T σ W
def PAt (P : Program) (X : Nat → Bool) (r : Option Nat) (ds : List Deferred) (ops : Array Oper) (w1 : World) (R : Env → Prop) (l : List Oper) (gs : List (Option Fact)) (_ : Tok (PProd.mk ops (PProd.mk R (PProd.mk l gs)))) (σ : Env) : Prop := PA P X r ds ops w1 R l gs σ
def GOt (P : Program) (r : Option Nat) (ds : List Deferred) (ops : Array Oper) (w1 : World) (Kp Ks : World → World → Prop) (bs : List (List Nat)) (st : Nat) (Gs : World → Prop) (T : Env → World → Prop) (l : List Oper) (gs : List (Option Fact)) (i : Nat) (acc : List (Nat × (World → Prop)))
 (_ : Tok (PProd.mk ops (PProd.mk bs (PProd.mk T (PProd.mk l (PProd.mk gs (PProd.mk i acc))))))) (σ : Env) : Prop := GO P r ds ops w1 Kp Ks bs st Gs T l gs i acc σ
section
variable (P : Program) (X : Nat → Bool) (r : Option Nat) (ds : List Deferred) (ops : Array Oper) (w1 : World) (R : Env → Prop) (Kp Ks : World → World → Prop) (bs : List (List Nat)) (st : Nat) (Gs : World → Prop) (T : Env → World → Prop) (o : Oper) (os : List Oper) (A : Fact) (gs : List (Option Fact)) (i : Nat) (acc : List (Nat × (World → Prop))) (σ : Env)
@[simp ↓] theorem PA_tok (l : List Oper) : PA P X r ds ops w1 R l gs σ = PAt P X r ds ops w1 R l gs .mk σ := _root_.id rfl
@[simp] theorem PAt_none (t) : PAt P X r ds ops w1 R (o :: os) (none :: gs) t σ = GIt (gw ops σ o.guard) (xV P X σ w1 o = true ∧ VO P r o (fun ρ'' ds'' w'' => (ds'' = ds ∧ w'' = w1) ∧ PA P X r ds ops w1 R os gs ρ'') (fun _ _ _ _ => False) σ ds w1) (PA P X r ds ops w1 R os gs (put σ o.dst undef)) .mk := _root_.id rfl
@[simp] theorem PAt_some (t) : PAt P X r ds ops w1 R (o :: os) (some A :: gs) t σ = PAt P X r ds ops w1 R os gs .mk (put σ o.dst undef) := _root_.id rfl
@[simp] theorem PAt_take (k : Nat) (t) : PAt P X r ds ops w1 R ((o :: os).take (k + 1)) gs t σ = PAt P X r ds ops w1 R (o :: os.take k) gs .mk σ := _root_.id rfl
@[simp ↓] theorem GO_tok (l : List Oper) : GO P r ds ops w1 Kp Ks bs st Gs T l gs i acc σ = GOt P r ds ops w1 Kp Ks bs st Gs T l gs i acc .mk σ := _root_.id rfl
@[simp] theorem GOt_none (t) : GOt P r ds ops w1 Kp Ks bs st Gs T (o :: os) (none :: gs) i acc t σ = GOt P r ds ops w1 Kp Ks bs st Gs T os gs (i + 1) acc .mk σ := _root_.id rfl
@[simp] theorem GOt_take (k : Nat) (t) : GOt P r ds ops w1 Kp Ks bs st Gs T ((o :: os).take (k + 1)) gs i acc t σ = GOt P r ds ops w1 Kp Ks bs st Gs T (o :: os.take k) gs i acc .mk σ := _root_.id rfl
end
section
variable {P : Program} {X : Nat → Bool} {r : Option Nat} {ds : List Deferred} {ops : Array Oper} {w1 : World} {R : Env → Prop} {Kp Ks : World → World → Prop} {bs : List (List Nat)} {st : Nat} {Gs : World → Prop} {T : Env → World → Prop} {o : Oper} {os : List Oper} {A : Fact} {gs : List (Option Fact)} {i : Nat} {acc : List (Nat × (World → Prop))} {σ : Env}
end
section
variable {P : Program} {X : Nat → Bool} {r : Option Nat} {ds : List Deferred} {ops : List Oper} {w1 : World} {R : Env → Prop} {Kp Ks : World → World → Prop} {m : Nat} {bs : List (List Nat)} {st : Nat} {Gs : World → Prop} {T : Env → World → Prop}
end
@[simp] theorem bldS_nil (P : Program) (w : World) (t : TypeId) (s : Nat) (z : Value) (w1 w2 : World) (hs : isS (P.underlying t) = true) (hi : ((Go.sizeOf (elemT (P.underlying t))).run P w) = .ok s w) :
  bldS P w t 0 [] (.ok s w1) (.ok z w2) = .ok (.slice (some ⟨w.heap.size,0,none⟩) 0 0) (w.alloc (.cells #[] (elemT (P.underlying t)))) := by
 have hu := run_und (isS_inv hs) w
 show (if bOk 0 s [] = true then _ else _) = _
 rw [if_neg (by simp [bOk])]
 have e : Array.range 0 = #[] := by simp [Array.range]
 simp [Instr.buildSlice,hu,hi,Instr.fill,newRow,newObj,Sem.run,e]
section
variable {P : Program} {w : World} {s : Nat} {v : Value} {n : Nat} {cs : List Value} {t : TypeId}
theorem Sl.sliceL (h : Sl w s v n cs) (hs : isS (P.underlying t) = true) (k : IntKind) (i : Int) (h0 : 0 ≤ i) (h1 : i ≤ n) (w' : World) :
  (Instr.sliceAt t v (some (.int k i)) none none).run P w' = ((Go.sizeOf (elemT (P.underlying t))).run P w').andThen fun z w' => .ok (slcL v i.toNat z) w' := by
 rw [run_sliceAt_slice w' t v _ _ _ (elem_of hs),elemT_of hs]
 rcases h.val with ⟨c, rfl, rfl⟩ | ⟨b, o, c, rfl, hc⟩
 ·rw [run_slice_l w' t none 0 c (elem_of hs) k i h0 (by omega)]
  congr 1
 ·rw [run_slice_l w' t _ n c (elem_of hs) k i h0 (by omega)]
  congr 1
theorem Sl.dropL (h : Sl w s v n cs) (i : Nat) (h1 : i ≤ n) : Sl w s (slcL v i s) (n - i) (cs.drop (i * s)) := by
 have hl := h.len
 refine ⟨by rw [List.length_drop, hl, Nat.sub_mul], ?_, ?_⟩
 ·rcases h.val with ⟨c, rfl, rfl⟩ | ⟨b, o, c, rfl, hc⟩
  ·left
   refine ⟨c - i,?_,by omega⟩
   simp only [slcL,Option.map_none,ite_self]
   have : i = 0 := by omega
   subst this; rfl
  ·right
   by_cases e : c = i
   ·exact ⟨b,o,c - i,by simp [slcL,e],by omega⟩
   ·exact ⟨b,o + i * s,c - i,by simp [slcL,e],by omega⟩
 ·intro j u hj
  rw [List.getElem?_drop] at hj
  have hat := h.at_ _ u hj
  rcases h.val with ⟨c, rfl, rfl⟩ | ⟨b, o, c, rfl, hc⟩
  ·have := (List.getElem?_eq_some_iff.1 hj).1
   omega
  ·by_cases e : c = i
   ·have := (List.getElem?_eq_some_iff.1 hj).1
    have h2 : n = i := by omega
    rw [hl,h2] at this; omega
   ·simp only [slcL,if_neg e,Option.map_some,add_mk,slB,slO] at hat ⊢
    rw [Nat.add_assoc]; exact hat
end
end Pk
namespace Pk
open Go
def phI (E : List Nat) (i : Nat) : Nat := E.countP fun e => decide (e < i)
@[simp] theorem phI_nil (i : Nat) : phI [] i = 0 := rfl
def ordB (bs : List (List Nat)) (E : List Nat) (i : Nat) : Bool := E.all fun e => (bsAt bs i).contains e || (decide (e = i) || (bsAt bs e).contains i)
def GH (P : Program) (r : Option Nat) (ds : List Deferred) (ops : Array Oper) (w1 : World) (Kp : World → World → Prop) (bs : List (List Nat)) (E : List Nat) (Ph : Nat → World → Prop) (T : Env → World → Prop) : List Oper → List (Option Fact) → Nat → List (Nat × (World → Prop)) → Env → Prop
 | _ :: os,none :: gs,i,acc,σ => GH P r ds ops w1 Kp bs E Ph T os gs (i + 1) acc σ
 | o :: os, some A :: gs, i, acc, σ =>
  (∀ k k' W, (ordB bs E i = true → k = phI E i ∧ k' = phI E (i + 1)) → (ordB bs E i = false → k' = k) → Kp w1 W → Ph k W → (∀ p ∈ acc, (bsAt bs i).contains p.1 = true → p.2 W) →
   GI (gw ops σ o.guard) (VO P r o (fun ρ'' ds'' w'' => ds'' = ds ∧ Kp W w'' ∧ A (dv ρ'' o.dst) w'' ∧ Ph k' w'') (fun _ _ _ _ => False) σ ds W) (A undef W ∧ Ph k' W)) ∧
  ∀ u,GH P r ds ops w1 Kp bs E Ph T os gs (i + 1) ((i,A u) :: acc) (put σ o.dst u)
 | _,_,_,acc,σ => ∀ W,Kp w1 W → Ph E.length W → (∀ p ∈ acc,p.2 W) → T σ W
def GHt (P : Program) (r : Option Nat) (ds : List Deferred) (ops : Array Oper) (w1 : World) (Kp : World → World → Prop) (bs : List (List Nat)) (E : List Nat) (Ph : Nat → World → Prop) (T : Env → World → Prop) (l : List Oper) (gs : List (Option Fact)) (i : Nat) (acc : List (Nat × (World → Prop)))
 (_ : Tok (PProd.mk ops (PProd.mk bs (PProd.mk T (PProd.mk l (PProd.mk gs (PProd.mk i acc))))))) (σ : Env) : Prop := GH P r ds ops w1 Kp bs E Ph T l gs i acc σ
section
variable (P : Program) (r : Option Nat) (ds : List Deferred) (ops : Array Oper) (w1 : World) (Kp : World → World → Prop) (bs : List (List Nat)) (E : List Nat) (Ph : Nat → World → Prop) (T : Env → World → Prop) (o : Oper) (os : List Oper) (A : Fact) (gs : List (Option Fact)) (i : Nat) (acc : List (Nat × (World → Prop))) (σ : Env)
@[simp ↓] theorem GH_tok (l : List Oper) : GH P r ds ops w1 Kp bs E Ph T l gs i acc σ = GHt P r ds ops w1 Kp bs E Ph T l gs i acc .mk σ := _root_.id rfl
@[simp] theorem GHt_none (t) : GHt P r ds ops w1 Kp bs E Ph T (o :: os) (none :: gs) i acc t σ = GHt P r ds ops w1 Kp bs E Ph T os gs (i + 1) acc .mk σ := _root_.id rfl
@[simp] theorem GHt_take (k : Nat) (t) : GHt P r ds ops w1 Kp bs E Ph T ((o :: os).take (k + 1)) gs i acc t σ = GHt P r ds ops w1 Kp bs E Ph T (o :: os.take k) gs i acc .mk σ := _root_.id rfl
end
section
variable {P : Program} {r : Option Nat} {ds : List Deferred} {ops : Array Oper} {w1 : World} {Kp : World → World → Prop} {bs : List (List Nat)} {E : List Nat} {Ph : Nat → World → Prop} {T : Env → World → Prop} {o : Oper} {os : List Oper} {A : Fact} {gs : List (Option Fact)} {i : Nat} {acc : List (Nat × (World → Prop))} {σ : Env}
end
section
variable {P : Program} {X : Nat → Bool} {r : Option Nat} {ds : List Deferred} {ops : List Oper} {w1 : World} {R : Env → Prop} {Kp : World → World → Prop} {m : Nat} {bs : List (List Nat)} {E : List Nat} {Ph : Nat → World → Prop} {T : Env → World → Prop}
end
end Pk