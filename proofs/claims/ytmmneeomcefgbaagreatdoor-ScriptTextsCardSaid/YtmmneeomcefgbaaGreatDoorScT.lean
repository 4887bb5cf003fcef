/-
  Contracts of the functions that the law reaches,step by step.
-/
import Derived.Test.YtmmneeomcefgbaaGreatDoorScG
import Derived.Test.YtmmneeomcefgbaaGreatDoorEngV
namespace Go.Proofs
open Pk
set_option maxRecDepth 100000
/-! ### A turn loaded and stored whole -/
abbrev trV (t : Trn) (vp vk : Value) : Value := .agg (trC t vp vk).toArray
theorem putC_blk {b : Nat} : ∀ (cs : List Value) {w : World} {ds : List Value} (o : Nat), Blk w b ds → Blk (putC w b o cs) b (setL ds o cs)
  | [],_,_,_,h => h
  | u :: cs,_,_,o,h => putC_blk cs (o + 1) (h.set o u)
theorem Blk.put {w : World} {b : Nat} {cs ds : List Value} (h : Blk w b ds) (hl : cs.length = ds.length) : Blk (putC w b 0 cs) b cs := by
  have := putC_blk cs 0 h
  rw [setL_eq cs ds 0 (by omega)] at this
  simpa [hl] using this
theorem run_storeCells {P : Program} {b : Nat} : ∀ (cs : List Value) {w : World} {ds : List Value} (o : Nat), Blk w b ds → o + cs.length ≤ ds.length → cs.all oneV = true → (storeCells ⟨b, 0, none⟩ cs o).run P w = .ok () (putC w b o cs)
  | [],w,ds,o,_,_,_ => rfl
  | u :: cs, w, ds, o, h, hl, hc => by
    simp only [List.length_cons] at hl
    simp only [List.all_cons,Bool.and_eq_true] at hc
    have h1 := run_storeCells (P := P) cs (o + 1) (h.set o u) (by simp; omega) hc.2
    have hx : ds[o]? = some (ds[o]'(by omega)) := List.getElem?_eq_getElem (by omega)
    have h2 : (store ⟨b, o, none⟩ u).run P w = .ok () (w.setCell ⟨b, o, none⟩ u) := by
      rw [run_store_sto P w _ u hc.1,h.cell o _ hx,h.thaw]; rfl
    rw [storeCells,add_mk,Nat.zero_add,Sem.run_bind,h2,Result.andThen_ok,h1]
    rfl
theorem run_loadCells {P : Program} {w : World} {b : Nat} {ds : List Value} (h : Blk w b ds) : ∀ (n o : Nat) (acc : Array Value), o + n ≤ ds.length → (loadCellsFrom ⟨b, 0, none⟩ o n acc).run P w = .ok (acc ++ ((ds.drop o).take n).toArray) w
  | 0,o,acc,_ => by simp [loadCellsFrom]
  | n + 1, o, acc, hl => by
    have hx : ds[o]? = some (ds[o]'(by omega)) := List.getElem?_eq_getElem (by omega)
    have h2 : (load ⟨b, o, none⟩).run P w = .ok (ds[o]'(by omega)) w := by
      simp [load,Sem.run,h.cell o _ hx]
    rw [loadCellsFrom,add_mk,Nat.zero_add,Sem.run_bind,h2,Result.andThen_ok,run_loadCells h n (o + 1) _ (by omega)]
    congr 1
    rw [List.drop_eq_getElem_cons (by omega : o < ds.length),List.take_succ_cons]
    simp
theorem run_loadAll {P : Program} {w : World} {b : Nat} {ds : List Value} (h : Blk w b ds) {n : Nat} (hn : ds.length = n) : (loadCells ⟨b, 0, none⟩ n).run P w = .ok ds.toArray w := by
  subst hn
  rw [loadCells,run_loadCells h _ 0 #[] (by omega)]
  simp
theorem lv_turn {w : World} {b : Nat} {t : Trn} {vp vk : Value} (hb : Blk w b (trC t vp vk)) : (loadVar 45 ⟨b, 0, none⟩).run Tryz.prog w = .ok (trV t vp vk) w := by
  have h2 := run_loadAll (P := Tryz.prog) hb (n := 44) rfl
  show _ = Result.ok (Value.agg (trC t vp vk).toArray) w
  generalize (trC t vp vk).toArray = A at *
  simp only [loadVar]
  simp [-loadCells,-loadCellsFrom,h2]
theorem sv_turn {w : World} {b : Nat} {t : Trn} {vp vk : Value} (hb : Blk w b (trC t vp vk)) (t' : Trn) (vp' vk' : Value) (h1 : oneV vp' = true) (h2 : oneV vk' = true) :
    (storeVar 45 ⟨b,0,none⟩ (trV t' vp' vk')).run Tryz.prog w = .ok () (putC w b 0 (trC t' vp' vk')) := by
  have := run_storeCells (P := Tryz.prog) (trC t' vp' vk') 0 hb (by simp) (by simp [oneV] at h1 h2 ⊢; exact ⟨h1,h2⟩)
  simp only [storeVar,Value.cells]
  simp [-storeCells]
  exact this
theorem lvS (t : TypeId) (a : Addr) (h : (t == 45) = false) : loadVar t a = (do if ← isAgg t then pure (.agg (← loadCells a (← sizeOf t))) else load a) := rfl
theorem svS (t : TypeId) (a : Addr) (v : Value) (h : (t == 45) = false) : storeVar t a v = (do
    if v.cells.size ≠ (← sizeOf t) then stuck "storeVar: the value has not the size of the variable"
    storeCells a v.cells.toList) := rfl
theorem turn1_c {w : World} {b : Nat} {t : Trn} {vp vk : Value} (hb : Blk w b (trC t vp vk)) : FN Tryz.prog 32 [ptr b] w fun e w' => (∃ v, e = .returned v) ∧ w' = putC w b 0 (trC trn0 nilS nilS) := by
  refine FN_enter Tryz.func32 rfl rfl (by kernel_rfl) ?_
  have := sv_turn hb trn0 nilS nilS rfl rfl
  change (storeVar 45 ⟨b,0,none⟩ (.agg #[i64 0,u32 0,u32 0,u64 0,.bool false,u8 0,u32 0,u32 0,u32 0,u32 0,u32 0,u32 0,u64 0,u8 0,.slice none 0 0,u32 0,u32 0,u64 0,u64 0,u64 0,u32 0,u32 0,u64 0,u64 0,u32 0,u32 0,u32 0,.bool false,i64 0,u32 0,u32 0,u64 0,u32 0,i64 0,i64 0,u64 0,u64 0,u32 0,u32 0,.bool false,u64 0,u64 0,u8 0,.slice none 0 0])).run _ _ = _ at this
  simp [-loadVar,-storeVar,this]
  done
end Go.Proofs
