/-
  Contracts of the functions that the law reaches,step by step.
-/
import Derived.Test.YtmmneeomcefgbaaGreatDoorScI
import Derived.Test.YtmmneeomcefgbaaGreatDoorScT
import Derived.Lib.IndexBytes
namespace Go.Proofs
open Pk
set_option maxRecDepth 100000
attribute [local simp] beq_dec bne_dec
/-! ### A line's words -/
def wds : Tx → List Tx
  | [] => [[]]
  | c :: r => if c = 32 then [] :: wds r else match wds r with
    | [] => [[c]]
    | a :: t => (c :: a) :: t
theorem split_wds : ∀ l : Tx, Lib.splitK [32] 0 (l.count 32) l = wds l
  | [] => rfl
  | c :: r => by
    have ih := split_wds r
    by_cases hc : c = 32
    · subst hc
      have hix : Lib.index (32 :: r) [32] = 0 := by
        unfold Lib.index
        simp [List.isPrefixOf]
      rw [List.count_cons_self,wds,if_pos rfl,← ih,Lib.splitK,hix]
      rfl
    · rw [List.count_cons_of_ne (by simpa using hc),wds,if_neg hc,← ih]
      have hix : Lib.index (c :: r) [32] = if Lib.index r [32] == -1 then -1 else Lib.index r [32] + 1 := by
        rw [Lib.index]
        have : ([32] : Tx).isPrefixOf (c :: r) = false := by simp [List.isPrefixOf,Ne.symm hc]
        rw [this]; simp
      cases hk : r.count 32 with
      | zero => rfl
      | succ k =>
        have hne : Lib.index r [32] ≠ -1 := fun e => by
          have := Lib.count_miss e
          rw [Lib.count_one] at this
          omega
        have hge := Lib.index_ge r [32]
        obtain ⟨i,hi⟩ : ∃ i : Nat,Lib.index r [32] = i := ⟨(Lib.index r [32]).toNat,by omega⟩
        have h1 : (((i : Int) == -1) = true) ↔ False := by simp <;> omega
        rw [hi] at hix
        rw [if_neg (fun e => h1.1 e)] at hix
        have h2 : ¬ ((((i : Int) + 1) == -1) = true) := by simp <;> omega
        rw [Lib.splitK,Lib.splitK,hix,hi,if_neg h2,if_neg (fun e => h1.1 e)]
        have e1 : ((i : Int) + 1).toNat = i + 1 := by omega
        have e2 : ((i : Int)).toNat = i := by omega
        rw [e1,e2]
        rfl
theorem wds_len : ∀ l : Tx, (wds l).length ≤ l.length + 1
  | [] => by simp [wds]
  | c :: r => by
    have := wds_len r
    unfold wds
    split
    · simp; omega
    · split
      · simp
      · rename_i h; rw [h] at this; simp at this ⊢; omega
theorem wds_sub : ∀ l : Tx, ∀ s ∈ wds l, s.length ≤ l.length
  | [],s,h => by simp [wds] at h; subst h; simp
  | c :: r, s, h => by
    have ih := wds_sub r
    unfold wds at h
    split at h
    · rcases List.mem_cons.1 h with rfl | h
      · simp
      · have := ih s h; simp; omega
    · split at h
      · simp at h; subst h; simp
      · rename_i h'
        rcases List.mem_cons.1 h with rfl | h
        · have := ih _ (by rw [h']; exact List.mem_cons_self ..); simp; omega
        · have := ih s (by rw [h']; exact List.mem_cons_of_mem _ h); simp; omega
theorem wds_ne (l : Tx) : wds l ≠ [] := by
  cases l with
  | nil => simp [wds]
  | cons c r =>
    unfold wds
    split
    · simp
    · split <;> simp
set_option maxHeartbeats 1000000 in
theorem split_c (s : Tx) (hs : s.length ≤ 1000000) (w : World) : FN Tryz.prog 33 [tv s, tv [32]] w fun e w' => ∃ c, e = .returned (.slice (some ⟨w.heap.size, 0, none⟩) (wds s).length c) ∧ Sl w' 1 (.slice (some ⟨w.heap.size, 0, none⟩) (wds s).length c) (wds s).length ((wds s).map tv) ∧ Ext w w' ∧ w'.heap.size = w.heap.size + 1 := by
  refine FN_enter Tryz.func33 rfl rfl (by kernel_rfl) ?_
  have hcl : s.count 32 ≤ s.length := List.count_le_length
  have hcB : Lib.countB ⟨s.toArray⟩ ⟨#[32]⟩ = s.count 32 := by
    show Lib.count s [32] = _
    rw [Lib.count_one]
  have hC : Calls Tryz.prog 134 #[.string ⟨s.toArray⟩, .string ⟨#[32]⟩] w fun e w' => e = .returned (.int .i64 (Lib.countB ⟨s.toArray⟩ ⟨#[32]⟩)) ∧ w' = w := by
    refine (Tryz.strings_Count_one ⟨s.toArray⟩ 32 w).mono ?_
    rintro e w' ⟨rfl,rfl⟩
    rw [hcB]
    exact ⟨rfl,rfl⟩
  have hI : ∀ (x : ByteArray) (c : Array Value), x.size ≤ (⟨s.toArray⟩ : ByteArray).size → Calls Tryz.prog 135 #[.string x, .string ⟨#[32]⟩] (w.alloc (.cells c 9)) fun e w' => e = .returned (.int .i64 (Lib.indexB x ⟨#[32]⟩)) ∧ w' = w.alloc (.cells c 9) := by
    intro x c hx
    refine (Tryz.strings_Index_one x 32 _).mono ?_
    rintro e w' ⟨rfl,rfl⟩
    refine ⟨?_,rfl⟩
    show _ = Ending.returned (Value.int .i64 (Lib.index x.data.toList [32]))
    rw [Lib.index_one]
  have hg := Any.strings_genSplit_core Tryz.lays221 (by kernel_rfl) ⟨s.toArray⟩ ⟨#[32]⟩ 0 (-1) (s.count 32 + 1) w (by rw [tsz]; omega) (by decide) (Nat.zero_le _) hI hC (by decide) (by decide) (by rw [if_pos (by decide),hcB,tsz]; omega)
  simp
  rw [Nat.add_sub_cancel] at hg
  have hp : (Lib.splitB ⟨#[32]⟩ 0 (s.count 32) ⟨s.toArray⟩).map (·.data.toList) = wds s := by
    rw [Lib.splitB_data,← split_wds]
  have hpl := Lib.splitB_all ⟨#[32]⟩ (by decide) 0 (s.count 32) ⟨s.toArray⟩ hcB
  generalize Lib.splitB ⟨#[32]⟩ 0 (s.count 32) ⟨s.toArray⟩ = ps at *
  have hwl : (wds s).length = ps.length := by rw [← hp]; simp
  have hcs : (ps.map Value.string) = (wds s).map tv := by
    rw [← hp,List.map_map]
    refine List.map_congr_left fun b _ => ?_
    simp
  refine FN.mono (FN_of_calls Tryz.func98 rfl rfl hg) ?_
  rintro _ w2 ⟨rfl,rfl⟩
  rw [← hpl,Lib.cellsOf_full,hcs]
  simp [hwl]
  have hE1 : Ext w (w.alloc (.cells ((wds s).map tv).toArray 9)) := (Ext.refl w).alloc _
  refine ⟨⟨by simp [hwl],.inr ⟨_,0,_,rfl,by omega⟩,fun j u hj => ?_⟩,hE1⟩
  simp only [slB,slO,Nat.zero_add]
  rw [World.cell?_alloc_new]
  simpa using hj
/-! ### Turn -/
/-- Behind a function that has not given up. -/
theorem scaught_idle (a b : Value) (w : World) : CallsDIn (FR none) 0 Tryz.prog 21 #[a, b] .returning w fun e u' w' => (∃ v, e = .returned v) ∧ u' = .returning ∧ w' = w := by
  refine callsDIn_of_wpSIn Tryz.func21 rfl trivial fun c₀ cs hu => ?_
  apply wpSIn_seq
  apply wpSIn_region
  simp [wpOpsSIn,go_sem,recoverD,hu,Exit.thenS]
  apply wpSIn_seq
  apply wpSIn_region
  simp [wpOpsSIn,go_sem,Act.eval,Array.replicate,Exit.thenS]
  refine wpSIn_cond (t := false) (by simp [Act.eval]) ?_
  simp only [Bool.false_eq_true,if_false]
  refine wpSIn_of_wpIn rfl (wpIn_skip ?_)
  cases c₀
  simp_all [bodyPostS,results]
theorem sLV_caught {rs : Array ResultVar} {R : Ending → World → Prop} {ρ : Env} {ds : List Deferred} {w : World} {a b : Value} (h : LV Tryz.prog rs R ρ ds .returning w) :
    LV Tryz.prog rs R ρ ({ target := .fn (.func 21) #[],args := #[a,b] } :: ds) .returning w := by
  refine ⟨by simp, .inr ⟨.func 21, #[], 21, #[a, b], rfl, ?_, ?_⟩⟩
  · have := callFunc_enter Tryz.func21 rfl rfl #[a,b] w
    simp [invoke]
  · refine (scaught_idle a b w).mono ?_
    rintro e u' w' ⟨⟨v,rfl⟩,rfl,rfl⟩
    exact h
/-- Behind a function that has given up: its error is kept,and what it told is cleared. -/
theorem scaught_panic {b : Nat} {e0 e : Int} {f : Value} {w : World} {R : World → Prop} (hb : Var w b (i64 e0)) (hf : CV Tryz.prog f [] (w.setCell ⟨b, 0, none⟩ (i64 e)) fun en w' => (∃ v, en = .returned v) ∧ R w') :
    CallsDIn (FR none) 0 Tryz.prog 21 #[ptr b,f] (.panicking [⟨.iface 48 (i64 e),false,false⟩]) w fun en u' w' => (∃ v,en = .returned v) ∧ settle u' = .returning ∧ R w' := by
  refine callsDIn_of_wpSIn Tryz.func21 rfl trivial fun c₀ cs hu => ?_
  apply wpSIn_seq
  apply wpSIn_region
  simp [wpOpsSIn,go_sem,recoverD,hu,Exit.thenS]
  refine wpSIn_of_wpIn rfl ?_
  obtain ⟨T,hT⟩ : ∃ T : Array Value,T = #[ptr b,f] ++ ((Array.replicate 12 undef).setIfInBounds 3 (.iface 48 (i64 e))).setIfInBounds 2 (.iface 48 (i64 e)) := ⟨_,rfl⟩
  rw [← hT]
  have hA : Ag 14 T (fun t => T.getD t undef) := ⟨by rw [hT]; simp,fun _ _ => rfl⟩
  have t0 : T.getD 0 undef = ptr b := by rw [hT]; rfl
  have t1 : T.getD 1 undef = f := by rw [hT]; rfl
  have t4 : T.getD 4 undef = .iface 48 (i64 e) := by rw [hT]; rfl
  generalize hρ : (fun t => T.getD t undef : Env) = ρ at hA
  have r0 : ρ 0 = ptr b := by rw [← hρ]; exact t0
  have r1 : ρ 1 = f := by rw [← hρ]; exact t1
  have r4 : ρ 4 = .iface 48 (i64 e) := by rw [← hρ]; exact t4
  refine wpIn_mono (vc_sound (r := none) _ (fun e _ ds w' => e = .normal ∧ ds = [] ∧ R w') ρ [] w ?_ (by kernel_rfl) _ hA) ?_
  · have hn : ∀ W,(binOp .neq 20 (.iface 48 (i64 e)) .nilIface).run Tryz.prog W = .ok (.bool true) W := fun W => by simp [go_sem]
    have hta : ∀ W,(Instr.typeAssert (.iface 48 (i64 e)) 20 48 false).run Tryz.prog W = .ok (i64 e) W := fun W => by kernel_rfl
    simp [r0,r1,r4,hb.cell,hb.thaw,hn,hta]
    refine CV.mono hf ?_
    rintro _ w' ⟨⟨v,rfl⟩,hR⟩
    simp
    exact hR
  · rintro _ a w' ⟨ρ',hA',rfl,hd,hR⟩
    exact ⟨hd,_,rfl,.tuple #[],by simp [results],⟨_,rfl⟩,rfl,hR⟩
theorem sLV_panic {rs : Array ResultVar} {R : Ending → World → Prop} {ρ : Env} {ds : List Deferred} {w : World} {b : Nat} {e0 e : Int} {f : Value} (hb : Var w b (i64 e0)) (hf : CV Tryz.prog f [] (w.setCell ⟨b, 0, none⟩ (i64 e)) fun en w' => (∃ v, en = .returned v) ∧ LV Tryz.prog rs R ρ ds .returning w') :
    LV Tryz.prog rs R ρ ({ target := .fn (.func 21) #[],args := #[ptr b,f] } :: ds) (.panicking [⟨.iface 48 (i64 e),false,false⟩]) w := by
  refine ⟨by simp, .inr ⟨.func 21, #[], 21, #[ptr b, f], rfl, ?_, ?_⟩⟩
  · have := callFunc_enter Tryz.func21 rfl rfl #[ptr b,f] w
    simp [invoke]
  · refine (scaught_panic hb hf).mono ?_
    rintro en u' w' ⟨⟨v,rfl⟩,hu,hR⟩
    show LV _ _ _ _ _ (settle u') _
    rw [hu]
    exact hR
/-- What a reading of words makes of a line. -/
def turnP (rd : Tx → Option (Int × (Trn → List Tx → Option (Trn × List Tx)))) (s : Tx) : Option Trn := match wds s with
  | [] => none
  | w :: l => match rd w with
    | none => none
    | some (k, R) => match R { trn0 with kind := k } l with
      | some (t,[]) => some t
      | _ => none
end Go.Proofs
