/-
 Contracts of the functions that the law reaches,step by step.
-/
import Derived.Test.YtmmneeomcefgbaaGreatDoorScG
import Derived.Test.YtmmneeomcefgbaaGreatDoorEngV
import Derived.Test.YtmmneeomcefgbaaGreatDoorScH
import Derived.Lib.IndexBytes
namespace Go.Proofs
open Pk
set_option maxRecDepth 100000
abbrev trV (t : Trn) (vp vk : Value) : Value := .agg (trC t vp vk).toArray
theorem putC_blk {b : Nat} : ∀ (cs : List Value) {w : World} {ds : List Value} (o : Nat), Blk w b ds → Blk (putC w b o cs) b (setL ds o cs)
 | [],_,_,_,h => h
 | u :: cs,_,_,o,h => putC_blk cs (o + 1) (h.set o u)
theorem Blk.put {w : World} {b : Nat} {cs ds : List Value} (h : Blk w b ds) (hl : cs.length = ds.length) : Blk (putC w b 0 cs) b cs := by
 have := putC_blk cs 0 h
 rw [setL_eq cs ds 0 (by omega)] at this
 simpa [hl] using this
theorem run_storeCells {P : Program} {b : Nat} : ∀ (cs : List Value) {w : World} {ds : List Value} (o : Nat), Blk w b ds → o + cs.length ≤ ds.length → cs.all oneV = true → (storeCells ⟨b, 0, none⟩ cs o).run P w = .ok () (putC w b o cs)
 | [],w,ds,o,_,_,_ => rfl
 | u :: cs, w, ds, o, h, hl, hc => by
  simp only [List.length_cons] at hl
  simp only [List.all_cons,Bool.and_eq_true] at hc
  have h1 := run_storeCells (P := P) cs (o + 1) (h.set o u) (by simp; omega) hc.2
  have hx : ds[o]? = some (ds[o]'(by omega)) := List.getElem?_eq_getElem (by omega)
  have h2 : (store ⟨b, o, none⟩ u).run P w = .ok () (w.setCell ⟨b, o, none⟩ u) := by
   rw [run_store_sto P w _ u hc.1,h.cell o _ hx,h.thaw]; rfl
  rw [storeCells,add_mk,Nat.zero_add,Sem.run_bind,h2,Result.andThen_ok,h1]
  rfl
theorem run_loadCells {P : Program} {w : World} {b : Nat} {ds : List Value} (h : Blk w b ds) : ∀ (n o : Nat) (acc : Array Value), o + n ≤ ds.length → (loadCellsFrom ⟨b, 0, none⟩ o n acc).run P w = .ok (acc ++ ((ds.drop o).take n).toArray) w
 | 0,o,acc,_ => by simp [loadCellsFrom]
 | n + 1, o, acc, hl => by
  have hx : ds[o]? = some (ds[o]'(by omega)) := List.getElem?_eq_getElem (by omega)
  have h2 : (load ⟨b, o, none⟩).run P w = .ok (ds[o]'(by omega)) w := by
   simp [load,Sem.run,h.cell o _ hx]
  rw [loadCellsFrom,add_mk,Nat.zero_add,Sem.run_bind,h2,Result.andThen_ok,run_loadCells h n (o + 1) _ (by omega)]
  congr 1
  rw [List.drop_eq_getElem_cons (by omega : o < ds.length),List.take_succ_cons]
  simp
theorem run_loadAll {P : Program} {w : World} {b : Nat} {ds : List Value} (h : Blk w b ds) {n : Nat} (hn : ds.length = n) : (loadCells ⟨b, 0, none⟩ n).run P w = .ok ds.toArray w := by
 subst hn
 rw [loadCells,run_loadCells h _ 0 #[] (by omega)]
 simp
theorem lv_turn {w : World} {b : Nat} {t : Trn} {vp vk : Value} (hb : Blk w b (trC t vp vk)) : (loadVar 45 ⟨b, 0, none⟩).run Tryz.prog w = .ok (trV t vp vk) w := by
 have h2 := run_loadAll (P := Tryz.prog) hb (n := 44) rfl
 show _ = Result.ok (Value.agg (trC t vp vk).toArray) w
 generalize (trC t vp vk).toArray = A at *
 simp only [loadVar]
 simp [-loadCells,-loadCellsFrom,h2]
theorem sv_turn {w : World} {b : Nat} {t : Trn} {vp vk : Value} (hb : Blk w b (trC t vp vk)) (t' : Trn) (vp' vk' : Value) (h1 : oneV vp' = true) (h2 : oneV vk' = true) :
  (storeVar 45 ⟨b,0,none⟩ (trV t' vp' vk')).run Tryz.prog w = .ok () (putC w b 0 (trC t' vp' vk')) := by
 have := run_storeCells (P := Tryz.prog) (trC t' vp' vk') 0 hb (by simp) (by simp [oneV] at h1 h2 ⊢; exact ⟨h1,h2⟩)
 simp only [storeVar,Value.cells]
 simp [-storeCells]
 exact this
theorem lvS (t : TypeId) (a : Addr) (h : (t == 45) = false) : loadVar t a = (do if ← isAgg t then pure (.agg (← loadCells a (← sizeOf t))) else load a) := rfl
theorem svS (t : TypeId) (a : Addr) (v : Value) (h : (t == 45) = false) : storeVar t a v = (do
  if v.cells.size ≠ (← sizeOf t) then stuck "storeVar: the value has not the size of the variable"
  storeCells a v.cells.toList) := rfl
theorem turn1_c {w : World} {b : Nat} {t : Trn} {vp vk : Value} (hb : Blk w b (trC t vp vk)) : FN Tryz.prog 32 [ptr b] w fun e w' => (∃ v, e = .returned v) ∧ w' = putC w b 0 (trC trn0 nilS nilS) := by
 refine FN_enter Tryz.func32 rfl rfl (by kernel_rfl) ?_
 have := sv_turn hb trn0 nilS nilS rfl rfl
 change (storeVar 45 ⟨b,0,none⟩ (.agg #[i64 0,u32 0,u32 0,u64 0,.bool false,u8 0,u32 0,u32 0,u32 0,u32 0,u32 0,u32 0,u64 0,u8 0,.slice none 0 0,u32 0,u32 0,u64 0,u64 0,u64 0,u32 0,u32 0,u64 0,u64 0,u32 0,u32 0,u32 0,.bool false,i64 0,u32 0,u32 0,u64 0,u32 0,i64 0,i64 0,u64 0,u64 0,u32 0,u32 0,.bool false,u64 0,u64 0,u8 0,.slice none 0 0])).run _ _ = _ at this
 simp [-loadVar,-storeVar,this]
 done
end Go.Proofs
namespace Go.Proofs
open Pk
set_option maxRecDepth 100000
attribute [local simp] beq_dec bne_dec
def wds : Tx → List Tx
 | [] => [[]]
 | c :: r => if c = 32 then [] :: wds r else match wds r with
  | [] => [[c]]
  | a :: t => (c :: a) :: t
theorem split_wds : ∀ l : Tx, Lib.splitK [32] 0 (l.count 32) l = wds l
 | [] => rfl
 | c :: r => by
  have ih := split_wds r
  by_cases hc : c = 32
  ·subst hc
   have hix : Lib.index (32 :: r) [32] = 0 := by
    unfold Lib.index
    simp [List.isPrefixOf]
   rw [List.count_cons_self,wds,if_pos rfl,← ih,Lib.splitK,hix]
   rfl
  ·rw [List.count_cons_of_ne (by simpa using hc),wds,if_neg hc,← ih]
   have hix : Lib.index (c :: r) [32] = if Lib.index r [32] == -1 then -1 else Lib.index r [32] + 1 := by
    rw [Lib.index]
    have : ([32] : Tx).isPrefixOf (c :: r) = false := by simp [List.isPrefixOf,Ne.symm hc]
    rw [this]; simp
   cases hk : r.count 32 with
   | zero => rfl
   | succ k =>
    have hne : Lib.index r [32] ≠ -1 := fun e => by
     have := Lib.count_miss e
     rw [Lib.count_one] at this
     omega
    have hge := Lib.index_ge r [32]
    obtain ⟨i,hi⟩ : ∃ i : Nat,Lib.index r [32] = i := ⟨(Lib.index r [32]).toNat,by omega⟩
    have h1 : (((i : Int) == -1) = true) ↔ False := by simp <;> omega
    rw [hi] at hix
    rw [if_neg (fun e => h1.1 e)] at hix
    have h2 : ¬ ((((i : Int) + 1) == -1) = true) := by simp <;> omega
    rw [Lib.splitK,Lib.splitK,hix,hi,if_neg h2,if_neg (fun e => h1.1 e)]
    have e1 : ((i : Int) + 1).toNat = i + 1 := by omega
    have e2 : ((i : Int)).toNat = i := by omega
    rw [e1,e2]
    rfl
theorem wds_len : ∀ l : Tx, (wds l).length ≤ l.length + 1
 | [] => by simp [wds]
 | c :: r => by
  have := wds_len r
  unfold wds
  split
  ·simp; omega
  ·split
   ·simp
   ·rename_i h; rw [h] at this; simp at this ⊢; omega
theorem wds_sub : ∀ l : Tx, ∀ s ∈ wds l, s.length ≤ l.length
 | [],s,h => by simp [wds] at h; subst h; simp
 | c :: r, s, h => by
  have ih := wds_sub r
  unfold wds at h
  split at h
  ·rcases List.mem_cons.1 h with rfl | h
   ·simp
   ·have := ih s h; simp; omega
  ·split at h
   ·simp at h; subst h; simp
   ·rename_i h'
    rcases List.mem_cons.1 h with rfl | h
    ·have := ih _ (by rw [h']; exact List.mem_cons_self ..); simp; omega
    ·have := ih s (by rw [h']; exact List.mem_cons_of_mem _ h); simp; omega
theorem wds_ne (l : Tx) : wds l ≠ [] := by
 cases l with
 | nil => simp [wds]
 | cons c r =>
  unfold wds
  split
  ·simp
  ·split <;> simp
set_option maxHeartbeats 1000000 in
theorem split_c (s : Tx) (hs : s.length ≤ 1000000) (w : World) : FN Tryz.prog 33 [tv s, tv [32]] w fun e w' => ∃ c, e = .returned (.slice (some ⟨w.heap.size, 0, none⟩) (wds s).length c) ∧ Sl w' 1 (.slice (some ⟨w.heap.size, 0, none⟩) (wds s).length c) (wds s).length ((wds s).map tv) ∧ Ext w w' ∧ w'.heap.size = w.heap.size + 1 := by
 refine FN_enter Tryz.func33 rfl rfl (by kernel_rfl) ?_
 have hcl : s.count 32 ≤ s.length := List.count_le_length
 have hcB : Lib.countB ⟨s.toArray⟩ ⟨#[32]⟩ = s.count 32 := by
  show Lib.count s [32] = _
  rw [Lib.count_one]
 have hC : Calls Tryz.prog 134 #[.string ⟨s.toArray⟩, .string ⟨#[32]⟩] w fun e w' => e = .returned (.int .i64 (Lib.countB ⟨s.toArray⟩ ⟨#[32]⟩)) ∧ w' = w := by
  refine (Tryz.strings_Count_one ⟨s.toArray⟩ 32 w).mono ?_
  rintro e w' ⟨rfl,rfl⟩
  rw [hcB]
  exact ⟨rfl,rfl⟩
 have hI : ∀ (x : ByteArray) (c : Array Value), x.size ≤ (⟨s.toArray⟩ : ByteArray).size → Calls Tryz.prog 135 #[.string x, .string ⟨#[32]⟩] (w.alloc (.cells c 9)) fun e w' => e = .returned (.int .i64 (Lib.indexB x ⟨#[32]⟩)) ∧ w' = w.alloc (.cells c 9) := by
  intro x c hx
  refine (Tryz.strings_Index_one x 32 _).mono ?_
  rintro e w' ⟨rfl,rfl⟩
  refine ⟨?_,rfl⟩
  show _ = Ending.returned (Value.int .i64 (Lib.index x.data.toList [32]))
  rw [Lib.index_one]
 have hg := Any.strings_genSplit_core Tryz.lays221 (by kernel_rfl) ⟨s.toArray⟩ ⟨#[32]⟩ 0 (-1) (s.count 32 + 1) w (by rw [tsz]; omega) (by decide) (Nat.zero_le _) hI hC (by decide) (by decide) (by rw [if_pos (by decide),hcB,tsz]; omega)
 simp
 rw [Nat.add_sub_cancel] at hg
 have hp : (Lib.splitB ⟨#[32]⟩ 0 (s.count 32) ⟨s.toArray⟩).map (·.data.toList) = wds s := by
  rw [Lib.splitB_data,← split_wds]
 have hpl := Lib.splitB_all ⟨#[32]⟩ (by decide) 0 (s.count 32) ⟨s.toArray⟩ hcB
 generalize Lib.splitB ⟨#[32]⟩ 0 (s.count 32) ⟨s.toArray⟩ = ps at *
 have hwl : (wds s).length = ps.length := by rw [← hp]; simp
 have hcs : (ps.map Value.string) = (wds s).map tv := by
  rw [← hp,List.map_map]
  refine List.map_congr_left fun b _ => ?_
  simp
 refine FN.mono (FN_of_calls Tryz.func98 rfl rfl hg) ?_
 rintro _ w2 ⟨rfl,rfl⟩
 rw [← hpl,Lib.cellsOf_full,hcs]
 simp [hwl]
 have hE1 : Ext w (w.alloc (.cells ((wds s).map tv).toArray 9)) := (Ext.refl w).alloc _
 refine ⟨⟨by simp [hwl],.inr ⟨_,0,_,rfl,by omega⟩,fun j u hj => ?_⟩,hE1⟩
 simp only [slB,slO,Nat.zero_add]
 rw [World.cell?_alloc_new]
 simpa using hj
theorem scaught_idle (a b : Value) (w : World) : CallsDIn (FR none) 0 Tryz.prog 21 #[a, b] .returning w fun e u' w' => (∃ v, e = .returned v) ∧ u' = .returning ∧ w' = w := by
 refine callsDIn_of_wpSIn Tryz.func21 rfl trivial fun c₀ cs hu => ?_
 apply wpSIn_seq
 apply wpSIn_region
 simp [wpOpsSIn,go_sem,recoverD,hu,Exit.thenS]
 apply wpSIn_seq
 apply wpSIn_region
 simp [wpOpsSIn,go_sem,Act.eval,Array.replicate,Exit.thenS]
 refine wpSIn_cond (t := false) (by simp [Act.eval]) ?_
 simp only [Bool.false_eq_true,if_false]
 refine wpSIn_of_wpIn rfl (wpIn_skip ?_)
 cases c₀
 simp_all [bodyPostS,results]
theorem sLV_caught {rs : Array ResultVar} {R : Ending → World → Prop} {ρ : Env} {ds : List Deferred} {w : World} {a b : Value} (h : LV Tryz.prog rs R ρ ds .returning w) :
  LV Tryz.prog rs R ρ ({ target := .fn (.func 21) #[],args := #[a,b] } :: ds) .returning w := by
 refine ⟨by simp, .inr ⟨.func 21, #[], 21, #[a, b], rfl, ?_, ?_⟩⟩
 ·have := callFunc_enter Tryz.func21 rfl rfl #[a,b] w
  simp [invoke]
 ·refine (scaught_idle a b w).mono ?_
  rintro e u' w' ⟨⟨v,rfl⟩,rfl,rfl⟩
  exact h
theorem scaught_panic {b : Nat} {e0 e : Int} {f : Value} {w : World} {R : World → Prop} (hb : Var w b (i64 e0)) (hf : CV Tryz.prog f [] (w.setCell ⟨b, 0, none⟩ (i64 e)) fun en w' => (∃ v, en = .returned v) ∧ R w') :
  CallsDIn (FR none) 0 Tryz.prog 21 #[ptr b,f] (.panicking [⟨.iface 48 (i64 e),false,false⟩]) w fun en u' w' => (∃ v,en = .returned v) ∧ settle u' = .returning ∧ R w' := by
 refine callsDIn_of_wpSIn Tryz.func21 rfl trivial fun c₀ cs hu => ?_
 apply wpSIn_seq
 apply wpSIn_region
 simp [wpOpsSIn,go_sem,recoverD,hu,Exit.thenS]
 refine wpSIn_of_wpIn rfl ?_
 obtain ⟨T,hT⟩ : ∃ T : Array Value,T = #[ptr b,f] ++ ((Array.replicate 12 undef).setIfInBounds 3 (.iface 48 (i64 e))).setIfInBounds 2 (.iface 48 (i64 e)) := ⟨_,rfl⟩
 rw [← hT]
 have hA : Ag 14 T (fun t => T.getD t undef) := ⟨by rw [hT]; simp,fun _ _ => rfl⟩
 have t0 : T.getD 0 undef = ptr b := by rw [hT]; rfl
 have t1 : T.getD 1 undef = f := by rw [hT]; rfl
 have t4 : T.getD 4 undef = .iface 48 (i64 e) := by rw [hT]; rfl
 generalize hρ : (fun t => T.getD t undef : Env) = ρ at hA
 have r0 : ρ 0 = ptr b := by rw [← hρ]; exact t0
 have r1 : ρ 1 = f := by rw [← hρ]; exact t1
 have r4 : ρ 4 = .iface 48 (i64 e) := by rw [← hρ]; exact t4
 refine wpIn_mono (vc_sound (r := none) _ (fun e _ ds w' => e = .normal ∧ ds = [] ∧ R w') ρ [] w ?_ (by kernel_rfl) _ hA) ?_
 ·have hn : ∀ W,(binOp .neq 20 (.iface 48 (i64 e)) .nilIface).run Tryz.prog W = .ok (.bool true) W := fun W => by simp [go_sem]
  have hta : ∀ W,(Instr.typeAssert (.iface 48 (i64 e)) 20 48 false).run Tryz.prog W = .ok (i64 e) W := fun W => by kernel_rfl
  simp [r0,r1,r4,hb.cell,hb.thaw,hn,hta]
  refine CV.mono hf ?_
  rintro _ w' ⟨⟨v,rfl⟩,hR⟩
  simp
  exact hR
 ·rintro _ a w' ⟨ρ',hA',rfl,hd,hR⟩
  exact ⟨hd,_,rfl,.tuple #[],by simp [results],⟨_,rfl⟩,rfl,hR⟩
theorem sLV_panic {rs : Array ResultVar} {R : Ending → World → Prop} {ρ : Env} {ds : List Deferred} {w : World} {b : Nat} {e0 e : Int} {f : Value} (hb : Var w b (i64 e0)) (hf : CV Tryz.prog f [] (w.setCell ⟨b, 0, none⟩ (i64 e)) fun en w' => (∃ v, en = .returned v) ∧ LV Tryz.prog rs R ρ ds .returning w') :
  LV Tryz.prog rs R ρ ({ target := .fn (.func 21) #[],args := #[ptr b,f] } :: ds) (.panicking [⟨.iface 48 (i64 e),false,false⟩]) w := by
 refine ⟨by simp, .inr ⟨.func 21, #[], 21, #[ptr b, f], rfl, ?_, ?_⟩⟩
 ·have := callFunc_enter Tryz.func21 rfl rfl #[ptr b,f] w
  simp [invoke]
 ·refine (scaught_panic hb hf).mono ?_
  rintro en u' w' ⟨⟨v,rfl⟩,hu,hR⟩
  show LV _ _ _ _ _ (settle u') _
  rw [hu]
  exact hR
def turnP (rd : Tx → Option (Int × (Trn → List Tx → Option (Trn × List Tx)))) (s : Tx) : Option Trn := match wds s with
 | [] => none
 | w :: l => match rd w with
  | none => none
  | some (k, R) => match R { trn0 with kind := k } l with
   | some (t,[]) => some t
   | _ => none
end Go.Proofs
namespace Go.Proofs
open Pk
set_option maxRecDepth 100000
attribute [local simp] beq_dec bne_dec
def TurnE (w w' : World) (o : Option Trn) (e : Ending) : Prop := Ext w w' ∧ match o with
 | none => e = .returned (.tuple #[trV trn0 nilS nilS,i64 370])
 | some t => ∃ vp vk,e = .returned (.tuple #[trV t vp vk,i64 0]) ∧ Sl w' 1 vp t.pay.length (t.pay.map encB) ∧ (t.pay ≠ [] → w.heap.size ≤ slB vp) ∧ Sl w' 1 vk t.keep.length (t.keep.map Value.bool) ∧ (t.keep ≠ [] → w.heap.size ≤ slB vk)
set_option maxHeartbeats 4000000 in
theorem turn_c (rd : Tx → Option (Int × (Trn → List Tx → Option (Trn × List Tx)))) (s : Tx) (hs : s.length ≤ 900000) {w : World} (hG : Gl w) (h8 : 8 ≤ w.heap.size) (hrd : ∀ f1 f2 s0 l, wds s = s0 :: l → LookOk rd f1 f2 s0) :
  FN Tryz.prog 13 [tv s] w fun e w' => TurnE w w' (turnP rd s) e := by
 refine FN_enter Tryz.func13 rfl rfl (by kernel_rfl) ?_
 have hE1 : Ext w ((w.alloc (.cells #[i64 0,u32 0,u32 0,u64 0,.bool false,u8 0,u32 0,u32 0,u32 0,u32 0,u32 0,u32 0,u64 0,u8 0,.slice none 0 0,u32 0,u32 0,u64 0,u64 0,u64 0,u32 0,u32 0,u64 0,u64 0,u32 0,u32 0,u32 0,.bool false,i64 0,u32 0,u32 0,u64 0,u32 0,i64 0,i64 0,u64 0,u64 0,u32 0,u32 0,.bool false,u64 0,u64 0,u8 0,.slice none 0 0] 45)).alloc (.cells #[i64 0] 48)) := ((Ext.refl w).alloc _).alloc _
 have o1 : Blk ((w.alloc (.cells #[i64 0,u32 0,u32 0,u64 0,.bool false,u8 0,u32 0,u32 0,u32 0,u32 0,u32 0,u32 0,u64 0,u8 0,.slice none 0 0,u32 0,u32 0,u64 0,u64 0,u64 0,u32 0,u32 0,u64 0,u64 0,u32 0,u32 0,u32 0,.bool false,i64 0,u32 0,u32 0,u64 0,u32 0,i64 0,i64 0,u64 0,u64 0,u32 0,u32 0,.bool false,u64 0,u64 0,u8 0,.slice none 0 0] 45)).alloc (.cells #[i64 0] 48)) w.heap.size (trC trn0 nilS nilS) := (Blk.new w [i64 0,u32 0,u32 0,u64 0,.bool false,u8 0,u32 0,u32 0,u32 0,u32 0,u32 0,u32 0,u64 0,u8 0,.slice none 0 0,u32 0,u32 0,u64 0,u64 0,u64 0,u32 0,u32 0,u64 0,u64 0,u32 0,u32 0,u32 0,.bool false,i64 0,u32 0,u32 0,u64 0,u32 0,i64 0,i64 0,u64 0,u64 0,u32 0,u32 0,.bool false,u64 0,u64 0,u8 0,.slice none 0 0] 45).ext ((Ext.refl _).alloc _)
 have q1 : Var ((w.alloc (.cells #[i64 0, u32 0, u32 0, u64 0, .bool false, u8 0, u32 0, u32 0, u32 0, u32 0, u32 0, u32 0, u64 0, u8 0, .slice none 0 0, u32 0, u32 0, u64 0, u64 0, u64 0, u32 0, u32 0, u64 0, u64 0, u32 0, u32 0, u32 0, .bool false, i64 0, u32 0, u32 0, u64 0, u32 0, i64 0, i64 0, u64 0, u64 0, u32 0, u32 0, .bool false, u64 0, u64 0, u8 0, .slice none 0 0] 45)).alloc (.cells #[i64 0] 48)) (w.heap.size + 1) (i64 0) := by
  have := Var.new (w.alloc (.cells #[i64 0,u32 0,u32 0,u64 0,.bool false,u8 0,u32 0,u32 0,u32 0,u32 0,u32 0,u32 0,u64 0,u8 0,.slice none 0 0,u32 0,u32 0,u64 0,u64 0,u64 0,u32 0,u32 0,u64 0,u64 0,u32 0,u32 0,u32 0,.bool false,i64 0,u32 0,u32 0,u64 0,u32 0,i64 0,i64 0,u64 0,u64 0,u32 0,u32 0,.bool false,u64 0,u64 0,u8 0,.slice none 0 0] 45)) (i64 0) 48
  simpa using this
 have hz1 : ((w.alloc (.cells #[i64 0,u32 0,u32 0,u64 0,.bool false,u8 0,u32 0,u32 0,u32 0,u32 0,u32 0,u32 0,u64 0,u8 0,.slice none 0 0,u32 0,u32 0,u64 0,u64 0,u64 0,u32 0,u32 0,u64 0,u64 0,u32 0,u32 0,u32 0,.bool false,i64 0,u32 0,u32 0,u64 0,u32 0,i64 0,i64 0,u64 0,u64 0,u32 0,u32 0,.bool false,u64 0,u64 0,u8 0,.slice none 0 0] 45)).alloc (.cells #[i64 0] 48)).heap.size = w.heap.size + 2 := by simp
 simp [-loadVar,-storeVar]
 obtain ⟨a,ha⟩ : ∃ a,w.heap.size = a := ⟨_,rfl⟩
 rw [ha] at o1 q1 h8 hz1 ⊢
 generalize ((w.alloc (.cells #[i64 0,u32 0,u32 0,u64 0,.bool false,u8 0,u32 0,u32 0,u32 0,u32 0,u32 0,u32 0,u64 0,u8 0,.slice none 0 0,u32 0,u32 0,u64 0,u64 0,u64 0,u32 0,u32 0,u64 0,u64 0,u32 0,u32 0,u32 0,.bool false,i64 0,u32 0,u32 0,u64 0,u32 0,i64 0,i64 0,u64 0,u64 0,u32 0,u32 0,.bool false,u64 0,u64 0,u8 0,.slice none 0 0] 45)).alloc (.cells #[i64 0] 48)) = w1 at *
 have M01 : Mod (fun k => a ≤ k) w w1 := hE1.mod
 have pan : ∀ (W : World) (ρ : Env), ρ 2 = ptr a → ρ 3 = ptr (a + 1) → TB W a → Var W (a + 1) (i64 0) → Mod (fun k => a ≤ k) w W → turnP rd s = none →
   LV Tryz.prog #[ResultVar.cell 2 45,ResultVar.cell 3 48] (fun e w' => TurnE w w' (turnP rd s) e) ρ [{ target := .fn (.func 21) #[],args := #[ptr (a + 1),.func (.func 32) #[] #[ptr a]] }] (.panicking (panE 370)) W := by
  intro W ρ e2 e3 ⟨t',vp,vk,T⟩ cW hM hN
  refine sLV_panic cW ?_
  rw [CV_func]
  have hM1 : Mod (fun k => k = a + 1) W (W.setCell ⟨a + 1,0,.none⟩ (i64 370)) := (Mod.refl _ _).setC _ _
  have T1 := T.mod hM1 (by omega)
  have cW1 := cW.set (i64 370)
  generalize (W.setCell ⟨a + 1,0,.none⟩ (i64 370)) = W1 at *
  refine FN.mono (turn1_c T1) ?_
  rintro e3' W2 ⟨⟨u,rfl⟩,hW2⟩
  refine ⟨⟨u,rfl⟩,?_⟩
  have hM2 : Mod (fun k => k = a) W1 W2 := by rw [hW2]; exact putC_mod _ _ (Mod.refl _ _)
  have x2 : Blk W2 a (trC trn0 nilS nilS) := by rw [hW2]; exact Blk.put T1 rfl
  have c2 := cW1.mod hM2 (by omega)
  simp [-loadVar,-storeVar,lvS,e2,e3,lv_turn x2,c2.cell]
  refine ⟨((hM.trans (hM1.weaken fun k hk => by omega)).trans (hM2.weaken fun k hk => by omega)).ext fun _ h => by omega,?_⟩
  rw [hN]
 obtain ⟨rb,hrb⟩ : ∃ rb,w1.heap.size = rb := ⟨_,rfl⟩
 have hsz1 := hE1.size
 refine FN.mono (split_c s (by omega) w1) ?_
 rintro _ w2 ⟨c,rfl,s2,E2⟩
 rw [hrb] at s2 ⊢
 simp
 have E3 : Ext w2 (w2.alloc (.cells #[.slice (some ⟨rb,0,none⟩) (wds s).length c] 99)) := (Ext.refl w2).alloc _
 have b3 : Blk (w2.alloc (.cells #[.slice (some ⟨rb,0,none⟩) (wds s).length c] 99)) w2.heap.size [.slice (some ⟨rb,0,none⟩) (wds s).length c] := Blk.new w2 _ _
 obtain ⟨b,hb⟩ : ∃ b,w2.heap.size = b := ⟨_,rfl⟩
 rw [hb] at b3 ⊢
 have s3 := s2.ext E3
 generalize (w2.alloc (.cells #[.slice (some ⟨rb,0,none⟩) (wds s).length c] 99)) = w3 at *
 obtain ⟨E2,z2⟩ := E2
 have E13 := E2.trans E3
 have z3 := E3.size
 obtain ⟨s0,l,hwl⟩ : ∃ s0 l,wds s = s0 :: l := List.exists_cons_of_ne_nil (wds_ne s)
 have hll := wds_len s
 have hls := wds_sub s
 have K3 : Rw w3 rb b (s0 :: l) := ⟨⟨_,b3,by rw [← hwl]; exact s3,rfl⟩,by omega⟩
 rw [hwl] at hll hls
 simp only [List.length_cons] at hll
 have hb1 : rb < b := by omega
 have hba : a + 2 ≤ rb := by omega
 clear b3 s2 s3
 refine WC_drawL 11 (.F 1 <| .F 2 <| .F 3 <| .D 9 <| .L 0 <| .L 4 <| .L 5 <| .F 6 <| .F 7 <| .F 8 <| .W 9 <| .S 10 <| .Z) (Xf fun k => k = b) (Xf fun k => k = b) (fun _ u W => ∃ j,u = ptr j ∧ b < j ∧ Blk W j [i64 0,.nilFunc,.nilFunc]) rfl (by kernel_rfl) (fun _ h => h) (fun _ _ _ _ ⟨j,h1,h2,h3⟩ hA => ⟨j,h1,h2,h3.agr hA (Xf_f (by omega))⟩) fun W hW => ?_
 have WE : Ext w3 W := hW ▸ Ext.drew _
 have zW := WE.size
 have hb3 := K3.lt
 simp [-loadVar,-storeVar]
 refine RL_float (fun W' h' => ?_) ?_
 ·simp
  have := h'.size
  exact ⟨(Ext.refl _).alloc _,by omega,Blk.new W' [i64 0,.nilFunc,.nilFunc] 78⟩
 simp [-loadVar,-storeVar]
 refine RL_loose fun W4 h4 => ?_
 simp [-loadVar,-storeVar]
 refine FN.mono (slines_c W4) ?_
 rintro e5 W5 ⟨r,f1,f2,rfl,m5,vf1,vf2,gr,gf1,gf2,E5⟩
 have z4 := h4.size
 have K5 := K3.ext ((WE.trans h4).trans E5)
 have E15 := E13.trans ((WE.trans h4).trans E5)
 simp [-loadVar,-storeVar]
 refine KR_ext E5 ?_
 simp [-loadVar,-storeVar]
 refine RL_loose fun W6 h6 => ?_
 simp [-loadVar,-storeVar]
 have z5 := E5.size
 have z6 := h6.size
 refine FN.mono (wnext_c (K5.ext h6) (by simp; omega)) ?_
 rintro e7 W7 ⟨M7,rfl,K7⟩
 simp [-loadVar,-storeVar]
 refine KR_mk (Xf_agr M7) ?_
 have z7 := M7.size
 have m7 := (m5.ext h6).mod M7 (by omega)
 have vf1 := (vf1.ext h6).mod M7 (by omega)
 have vf2 := (vf2.ext h6).mod M7 (by omega)
 have M17 : Mod (fun k => k = b) w1 W7 := (E15.trans h6).mod.trans M7
 obtain ⟨x0, x1, x2, ok, hlk, ho1, ho2, hcase⟩ : ∃ (x0 : Int) (x1 x2 : Value) (ok : Bool), (∀ W8, Ext W7 W8 → (Instr.lookup 73 (.map (some r)) (tv s0) true).run Tryz.prog W8 = .ok (.tuple #[agL [i64 x0, x1, x2], .bool ok]) W8) ∧
   oneV x1 = true ∧ oneV x2 = true ∧ match rd s0 with
    | none => ok = false
    | some (k,R) => ok = true ∧ x0 = k ∧ Rds f1 f2 x2 R := by
  have hL := hrd f1 f2 s0 l hwl
  have lk := fun W8 (h8 : Ext W7 W8) => (m7.ext h8).lookup kst tln (zln W8) s0 true
  unfold LookOk at hL
  rcases hr : rd s0 with _ | ⟨k, R⟩
  ·simp only [hr] at hL
   simp only [hL] at lk
   exact ⟨0,.nilFunc,.nilFunc,false,lk,rfl,rfl,rfl⟩
  ·simp only [hr] at hL
   obtain ⟨fl,fr,hm,h1,h2,hR⟩ := hL
   simp only [hm] at lk
   exact ⟨k,fl,fr,true,lk,h1,h2,rfl,rfl,hR⟩
 have hst1 := fun (p : Addr) (W : World) => run_store_sto Tryz.prog W p x1 ho1
 have hst2 := fun (p : Addr) (W : World) => run_store_sto Tryz.prog W p x2 ho2
 simp [-loadVar,-storeVar]
 refine RL_loose fun W8 h8' => ?_
 simp [-loadVar,-storeVar,hlk W8 h8']
 refine KR_same ?_
 simp [-loadVar,-storeVar,agL]
 refine RL_wait fun v W9 h9 hv => ?_
 obtain ⟨j,rfl,hbj,l9⟩ := hv
 simp [-loadVar,-storeVar,svS,hst1,hst2,l9.cell 0 _ rfl,l9.cell 1 _ rfl,l9.cell 2 _ rfl,l9.thaw,cell_setCell]
 have S10 : Mod (fun k => k = j) W9 (((W9.setCell ⟨j,0,none⟩ (i64 x0)).setCell ⟨j,1,none⟩ x1).setCell ⟨j,2,none⟩ x2) := (((Mod.refl _ _).setC 0 _).setC 1 _).setC 2 _
 have l10 : Blk (((W9.setCell ⟨j,0,none⟩ (i64 x0)).setCell ⟨j,1,none⟩ x1).setCell ⟨j,2,none⟩ x2) j [i64 x0,x1,x2] := ((l9.set 0 (i64 x0)).set 1 x1).set 2 x2
 generalize (((W9.setCell ⟨j,0,none⟩ (i64 x0)).setCell ⟨j,1,none⟩ x1).setCell ⟨j,2,none⟩ x2) = W10 at *
 refine KR_mk (agr_any (S10.weaken fun _ _ => trivial)) ?_
 have E79 := h8'.trans h9
 have z9 := E79.size
 have z10 := S10.size
 have M10 : Mod (fun k => a + 2 ≤ k) w1 W10 := ((M17.weaken fun k hk => by omega).trans E79.mod).trans (S10.weaken fun k hk => by omega)
 have K10 := (K7.ext E79).mod S10 (by omega) (by omega)
 have nf : ∀ f y, Var W9 f (.bool y) → f ≠ j := fun f y h e => by
  have := h.cell
  rw [e,l9.cell 0 _ rfl] at this
  cases this
 have vf1 := (vf1.ext E79).mod S10 (nf _ _ (vf1.ext E79))
 have vf2 := (vf2.ext E79).mod S10 (nf _ _ (vf2.ext E79))
 have hja : ¬ j = a := by omega
 have o10 := o1.mod M10 (by omega)
 have q10 := q1.mod M10 (by omega)
 simp [-loadVar,-storeVar]
 have hP : turnP rd s = match rd s0 with
  | none => none
  | some (k, R) => match R { trn0 with kind := k } l with
   | some (t,[]) => some t
   | _ => none := by unfold turnP; rw [hwl] <;> rfl
 rcases hr : rd s0 with _ | ⟨k, R⟩
 ·simp only [hr] at hcase hP
  subst hcase
  refine FN.mono (smust_f W10) ?_
  rintro _ W11 ⟨rfl,rfl⟩
  simp
  exact pan _ _ rfl rfl ⟨_,_,_,o10⟩ q10 (M01.trans (M10.weaken fun k hk => by omega)) hP
 simp only [hr] at hcase hP
 obtain ⟨rfl,rfl,hR⟩ := hcase
 refine FN.mono (smust_t W10) ?_
 rintro _ W11 ⟨⟨u,rfl⟩,rfl⟩
 simp [-loadVar,-storeVar,lvS,svS,l10.cell 0 _ rfl,o10.cell 0 _ rfl,o10.thaw,cell_setCell,hja,l10.cell 2 _ rfl]
 have S12 : Mod (fun k => k = a) W11 (W11.setCell ⟨a,0,none⟩ (i64 x0)) := (Mod.refl _ _).setC _ _
 have o12 : Blk (W11.setCell ⟨a,0,none⟩ (i64 x0)) a (trC { trn0 with kind := x0 } nilS nilS) := o10.set 0 (i64 x0)
 have hj9 := l9.lt
 have K12 := K10.mod S12 (by omega) (by omega)
 have q12 := q10.mod S12 (by omega)
 have nb : ∀ f y, Var W11 f (.bool y) → f ≠ a := fun f y h e => by
  have := h.cell
  rw [e,o10.cell 0 _ rfl] at this
  cases this
 have nc : ∀ f y, Var W11 f (.bool y) → f ≠ b := fun f y h e => by
  have := h.cell
  obtain ⟨⟨v,hb,hs,-⟩,-⟩ := K10
  obtain ⟨va,vc,rfl⟩ := hs.isSlice
  rw [e,hb.cell 0 _ rfl] at this
  cases this
 have vg1 := vf1.mod S12 (nb _ _ vf1)
 have vg2 := vf2.mod S12 (nb _ _ vf2)
 have M12 := M01.trans ((M10.weaken (S' := fun k => a ≤ k) fun k hk => by omega).trans (S12.weaken fun k hk => by omega))
 have z12 := S12.size
 generalize (W11.setCell ⟨a,0,none⟩ (i64 x0)) = W12 at *
 refine CV.mono (hR K12 (by omega) o12 rfl rfl (by omega) (by omega) (by omega) (fun x hx => by have := hls x (by simp [hx]); omega) (hG.mod M12 fun k hk => by omega) (by omega) (by omega) vg1 vg2 (nc _ _ vf1) (nb _ _ vf1) (nc _ _ vf2) (nb _ _ vf2)) ?_
 rintro e13 W13 ⟨M13,h13⟩
 have z13 := M13.size
 have q13 := q12.mod M13 (by omega)
 have M013 := M12.trans (M13.weaken fun k hk => by omega)
 rcases hx : R { trn0 with kind := x0 } l with _ | ⟨t, l'⟩
 ·rw [hx] at h13 hP
  obtain ⟨rfl,T13⟩ := h13
  simp
  exact pan _ _ rfl rfl T13 q13 M013 hP
 rw [hx] at h13 hP
 obtain ⟨⟨u,rfl⟩,K13,T13⟩ := h13
 obtain ⟨vp,vk,o13,sp,gp,sk,gk⟩ := T13
 obtain ⟨⟨v13,b13,s13,-⟩,-⟩ := K13
 obtain ⟨va,vc,rfl⟩ := s13.isSlice
 have ln13 := fun ty W => s13.isLen (P := Tryz.prog) (t := 60) (by simp) ty W
 cases l' with
 | cons x l' =>
  have hp : ¬ (l'.length : Int) + 1 = 0 := by omega
  simp [-loadVar,-storeVar,lvS,b13.cell 0 _ rfl,hp]
  refine FN.mono (smust_f W13) ?_
  rintro _ W14 ⟨rfl,rfl⟩
  simp
  exact pan _ _ rfl rfl ⟨_,_,_,o13⟩ q13 M013 hP
 | nil =>
  simp [-loadVar,-storeVar,lvS,b13.cell 0 _ rfl]
  refine FN.mono (smust_t W13) ?_
  rintro _ W14 ⟨⟨u,rfl⟩,rfl⟩
  have h1 : oneV vp = true := by obtain ⟨_,_,rfl⟩ := sp.isSlice; rfl
  have h2 : oneV vk = true := by obtain ⟨_,_,rfl⟩ := sk.isSlice; rfl
  have o15 : Blk (putC W14 a 0 (trC t vp vk)) a (trC t vp vk) := Blk.put o13 rfl
  have S15 : Mod (fun k => k = a) W14 (putC W14 a 0 (trC t vp vk)) := putC_mod _ _ (Mod.refl _ _)
  have st15 := sv_turn o13 t vp vk h1 h2
  have q15 := q13.mod S15 (by omega)
  simp [-loadVar,-storeVar,svS,lv_turn o13,st15,q15.cell,q15.thaw]
  have S16 : Mod (fun k => k = a + 1) (putC W14 a 0 (trC t vp vk)) ((putC W14 a 0 (trC t vp vk)).setCell ⟨a + 1,0,none⟩ (i64 0)) := (Mod.refl _ _).setC _ _
  have o16 := o15.mod S16 (by omega)
  have q16 := q15.set (i64 0)
  have M16 := (M013.trans (S15.weaken (S' := fun k => a ≤ k) fun k hk => by omega)).trans (S16.weaken fun k hk => by omega)
  generalize ((putC W14 a 0 (trC t vp vk)).setCell ⟨a + 1,0,none⟩ (i64 0)) = W16 at *
  refine sLV_caught ?_
  simp [-loadVar,-storeVar,lvS,lv_turn o16,q16.cell]
  refine ⟨M16.ext fun _ h => by omega,?_⟩
  rw [hP]
  have hz12 := M12.size
  have hz10 := M10.size
  refine ⟨vp,vk,rfl,slKeep (slKeep sp S15 fun h => ?_) S16 fun h => ?_,fun h => ?_,slKeep (slKeep sk S15 fun h => ?_) S16 fun h => ?_,fun h => ?_⟩
  all_goals first | (have := gp (by simpa using h); omega) | (have := gk (by simpa using h); omega)
end Go.Proofs