/-
 Contracts of the functions that the law reaches,step by step.
-/
import Derived.Test.YtmmneeomcefgbaaGreatDoorScT
namespace Go.Proofs
open Pk
set_option maxRecDepth 10000
attribute [local simp] beq_dec bne_dec
def Rvd (l xs : List UInt8) (k : Nat) : Prop := xs.length = l.length ∧ ∀ p,p < l.length → xs[p]? = if p < k ∨ l.length - k ≤ p then l[l.length - 1 - p]? else l[p]?
theorem Rvd.done {l xs : List UInt8} {k : Nat} (h : Rvd l xs k) (hk : l.length ≤ 2 * k + 1) : xs = l.reverse := by
 apply List.ext_getElem?
 intro p
 by_cases hp : p < l.length
 ·rw [h.2 p hp,List.getElem?_reverse hp]
  split
  ·rfl
  ·congr 1; omega
 ·rw [List.getElem?_eq_none (by have := h.1; omega),List.getElem?_eq_none (by simp; omega)]
theorem Rvd.step {l xs : List UInt8} {k : Nat} (h : Rvd l xs k) (hk : 2 * k + 1 < l.length) (a b : UInt8) (ha : xs[k]? = some a) (hb : xs[l.length - 1 - k]? = some b) : Rvd l ((xs.set k b).set (l.length - 1 - k) a) (k + 1) := by
 refine ⟨by simp [h.1],fun p hp => ?_⟩
 have h1 := h.2 k (by omega)
 have h2 := h.2 (l.length - 1 - k) (by omega)
 rw [if_neg (by omega)] at h1 h2
 rw [List.getElem?_set,List.getElem?_set,List.length_set,h.1]
 by_cases e1 : l.length - 1 - k = p
 ·subst e1
  rw [if_pos rfl,if_pos (by omega),if_pos (by omega),show l.length - 1 - (l.length - 1 - k) = k by omega,← h1,ha]
 ·rw [if_neg e1]
  by_cases e2 : k = p
  ·subst e2
   rw [if_pos rfl,if_pos (by omega),if_pos (by omega),← h2,hb]
  ·rw [if_neg e2,h.2 p hp]
   by_cases e3 : p < k ∨ l.length - k ≤ p
   ·rw [if_pos e3,if_pos (by omega)]
   ·rw [if_neg e3,if_neg (by omega)]
set_option maxHeartbeats 1000000 in
theorem rev_c {w : World} {base : Nat} {v : Value} {l : List UInt8} (h : w.ownsRow base 5 1 v l.length (l.map encB)) (hl : l.length ≤ 1000000) :
  FN Tryz.prog 108 [v] w fun e w' => (∃ u,e = .returned u) ∧ w'.ownsRow base 5 1 v l.length (l.reverse.map encB) ∧ Mod (fun k => k = slB v) w w' := by
 refine FN_enter Tryz.func108 rfl rfl (by kernel_rfl) ?_
 obtain ⟨va,vc,hv⟩ := own_val h
 have ln := fun ty W => (sl_of_own h).isLen (P := Tryz.prog) (t := 27) (by simp) ty W
 have w1 : IntKind.i64.wrap ((l.length : Int) - 1) = l.length - 1 := wrap64 _ (by omega) (by omega)
 simp [ln,w1]
 refine WC_loop (fun m ρ ds w' => ∃ (k : Nat) (xs : List UInt8), m = l.length - k ∧ k ≤ l.length ∧ ρ 0 = v ∧ ρ 2 = i64 k ∧ ρ 3 = i64 ((l.length : Int) - 1 - k) ∧ ds = [] ∧ w'.ownsRow base 5 1 v l.length (xs.map encB) ∧ Rvd l xs k ∧ (2 * k ≤ l.length + 1) ∧ Mod (fun k => k = slB v) w w') l.length
  ⟨0,l,by simp,by omega,rfl,rfl,by simp,rfl,h,⟨rfl,fun p hp => by rw [if_neg (by omega)]⟩,by omega,Mod.refl _ _⟩ ?_
 rintro m ρ ds w0 ⟨k,xs,rfl,hk,e0,e2,e3,rfl,ho,hR,h2,hM⟩
 by_cases hlt : 2 * k + 1 < l.length
 ·have hlt' : (k : Int) < (l.length : Int) - 1 - k := by omega
  simp [e2,e3,hlt']
  refine WC_drawL 14 (.F 0 <| .F 1 <| .F 2 <| .F 3 <| .F 4 <| .F 5 <| .F 6 <| .F 7 <| .F 8 <| .F 9 <| .F 10 <| .F 11 <| .F 12 <| .S 13 <| .Z) (fun _ => false) (fun _ => false) (fun _ _ _ => False) rfl (by kernel_rfl) (fun _ h => h) (fun _ _ _ _ h1 _ => h1) fun W hW => ?_
  have hE := hW ▸ Ext.drew w0
  have oW := own_ext ho (show Ext w0 W from hE)
  have sW := sl_of_own oW
  have xl := hR.1
  obtain ⟨a,ha⟩ : ∃ a,xs[k]? = some a := ⟨_,List.getElem?_eq_getElem (by omega)⟩
  obtain ⟨b,hb⟩ : ∃ b,xs[l.length - 1 - k]? = some b := ⟨_,List.getElem?_eq_getElem (by omega)⟩
  have ik := fun W => sW.index (P := Tryz.prog) (t := 27) (by simp) .i64 k (by omega) (by omega) W
  have ij := fun W => sW.index (P := Tryz.prog) (t := 27) (by simp) .i64 ((l.length : Int) - 1 - k) (by omega) (by omega) W
  have ej : ((l.length : Int) - 1 - k).toNat = l.length - 1 - k := by omega
  have ck := sW.at_ k (encB a) (by simp [ha])
  have cj := sW.at_ (l.length - 1 - k) (encB b) (by simp [hb])
  have th := fun j => own_thaw oW (by omega) j
  simp [e0,e2,e3,ik,ij,ej,ck,cj,th]
  have o1 := own_set oW k (by simp; omega) (encB b)
  have M1 : Mod (fun k => k = slB v) W (W.setCell ⟨slB v,slO v + k,none⟩ (encB b)) := (Mod.refl _ _).setC _ _
  refine KR_mk (agr_any (M1.weaken fun _ _ => trivial)) ?_
  rw [← List.map_set] at o1
  generalize (W.setCell ⟨slB v,slO v + k,none⟩ (encB b)) = W1 at *
  have s1 := sl_of_own o1
  have cj1 := s1.at_ (l.length - 1 - k) (encB b) (by simp [List.getElem?_set,hb]; omega)
  have th1 := fun j => own_thaw o1 (by omega) j
  simp [e0,e2,e3,ij,ej,cj1,th1]
  have o2 := own_set o1 (l.length - 1 - k) (by simp; omega) (encB a)
  have M2 : Mod (fun k => k = slB v) W1 (W1.setCell ⟨slB v,slO v + (l.length - 1 - k),none⟩ (encB a)) := (Mod.refl _ _).setC _ _
  rw [← List.map_set] at o2
  have wk : IntKind.i64.wrap ((k : Int) + 1) = k + 1 := wrap64 _ (by omega) (by omega)
  have wj : IntKind.i64.wrap ((l.length : Int) - 1 - k - 1) = (l.length : Int) - 1 - (k + 1) := by rw [wrap64 _ (by omega) (by omega)]; omega
  simp [wk,wj]
  exact ⟨l.length - (k + 1),by omega,k + 1,rfl,by omega,by omega,_,o2,hR.step hlt a b ha hb,by omega,((hM.trans (show Ext w0 W from hE).mod).trans M1).trans M2⟩
 ·have hlt' : ¬ (k : Int) < (l.length : Int) - 1 - k := by omega
  simp [e2,e3,hlt']
  rw [← List.map_reverse,← hR.done (by omega)]
  exact ⟨ho,hM⟩
theorem conv_t {w : World} {v : Value} {b : Tx} (h : SlB w 1 v b.length (b.map encB)) (t : TypeId) (ht : Tryz.prog.underlying t = some .string) : (convert 27 t v).run Tryz.prog w = .ok (tv b) w := by
 obtain ⟨ao,c,rfl,hc,ha⟩ := h.val
 by_cases h0 : b.length = 0
 ·have hb : b = [] := List.eq_nil_of_length_eq_zero h0
  subst hb
  rw [run_convert_bytes_string w 27 t 5 _ _ _ (by simp) (by simp) ht]
  cases ao with
  | none => rfl
  | some a =>
   have hl := run_loadCells_list (P := Tryz.prog) w a [] (by simp)
   have h2 := run_bytesToString w a 0 c [] hl
   rw [foldl_push_bytes] at h2
   exact h2
 ·obtain ⟨g,o,rfl⟩ := ha (by omega)
  have := run_convert_bytes_arg (P := Tryz.prog) w 27 5 (by simp) (by simp) g o b.length c (b.map fun c => (c.toNat : Int)) (by simp) (fun i hi => h.at_ i _ (by simp [List.getD,List.getElem?_eq_getElem hi])) t ht
  rw [this]
  congr 2
  simp [strOfNums,Function.comp_def]
theorem nd20 (n : Nat) (h : n ≤ 18446744073709551615) : Lib.nDigits n ≤ 20 := by
 by_cases h1 : 1 ≤ n
 ·have := Lib.numDigits_eq n h1 (by omega); split at this <;> omega
 ·rw [show n = 0 by omega,Lib.nDigits_small (by omega)]; omega
def ddT (x : Nat) : Tx := if x = 0 then [] else Lib.decDigits x
theorem dec_step (x : Nat) : Lib.decDigits x = ddT (x / 10) ++ [UInt8.ofNat (48 + x % 10)] := by
 rw [Lib.decDigits]
 unfold ddT
 by_cases h : x < 10
 ·rw [dif_pos h,if_pos (by omega),show x % 10 = x by omega]; rfl
 ·rw [dif_neg h,if_neg (by omega)]
set_option maxHeartbeats 1000000 in
theorem t32_c {w : World} (u : Nat) (hu : u ≤ 4294967295) : FN Tryz.prog 46 [Value.int .u32 u] w fun e w' => e = .returned (tv (Lib.decDigits u)) ∧ Ext w w' := by
 refine FN_enter Tryz.func46 rfl rfl (by kernel_rfl) ?_
 have hE0 : Ext w (w.alloc (.cells #[] 5)) := (Ext.refl _).alloc _
 have o0 := own_empty (e := 5) (s := 1) w w.heap.size (Nat.le_refl _)
 have wu : IntKind.u64.wrap (u : Int) = u := wrap64u _ (by omega) (by omega)
 simp [wu]
 obtain ⟨B,hB⟩ : ∃ B,w.heap.size = B := ⟨_,rfl⟩
 rw [hB] at o0 ⊢
 generalize (w.alloc (.cells #[] 5)) = w0 at *
 refine WC_loop (fun m ρ ds w' => ∃ (x : Nat) (v : Value) (r : Tx), m = x + (if r = [] then 1 else 0) ∧ ρ 3 = v ∧ ρ 4 = u64 x ∧ ds = [] ∧ x ≤ u ∧ w'.ownsRow B 5 1 v r.length (r.map encB) ∧ Ext w w' ∧ (r = [] → x = u) ∧ (r ≠ [] → Lib.decDigits u = ddT x ++ r.reverse)) (u + 1)
  ⟨u,_,[],by simp,rfl,rfl,rfl,Nat.le_refl _,o0,hE0,fun _ => rfl,fun h => absurd rfl h⟩ ?_
 rintro m ρ ds w3 ⟨x,v,r,rfl,e3,e4,rfl,hx,ho,hE,h1,h2⟩
 have hnd := nd20 u (by omega)
 have hrl : r.length ≤ 20 := by
  by_cases hr : r = []
  ·simp [hr]
  ·have := congrArg List.length (h2 hr)
   rw [Lib.decDigits_length,List.length_append,List.length_reverse] at this
   omega
 have ln := fun ty W => (sl_of_own ho).isLen (P := Tryz.prog) (t := 27) (by simp) ty W
 have ap : ∀ (x : Nat), ∃ v' w5, (Builtin.append_ #[27, 27] 27 #[v, .slice (some ⟨w3.heap.size, 0, none⟩) 1 1]).run Tryz.prog (w3.alloc (.cells #[u8 ((48 + x % 10 : Nat) : Int)] 5)) = .ok v' w5 ∧ w5.ownsRow B 5 1 v' (r ++ [UInt8.ofNat (48 + x % 10)]).length ((r ++ [UInt8.ofNat (48 + x % 10)]).map encB) ∧ Ext w w5 := by
  intro x
  have hE4 : Ext w3 (w3.alloc (.cells #[u8 ((48 + x % 10 : Nat) : Int)] 5)) := (Ext.refl _).alloc _
  have sl4 : Sl (w3.alloc (.cells #[u8 ((48 + x % 10 : Nat) : Int)] 5)) 1 (.slice (some ⟨w3.heap.size,0,none⟩) 1 1) 1 [u8 ((48 + x % 10 : Nat) : Int)] := Sl.made w3 [u8 ((48 + x % 10 : Nat) : Int)] 5 1 1 rfl
  have zE := hE.size
  have z4 := hE4.size
  obtain ⟨v',w5,hr,ho5,hM5,-⟩ := append_own (P := Tryz.prog) (t := 27) (ty := 27) (e := 5) (s := 1) (by simp) (by simp) (by kernel_rfl) (own_ext ho hE4) sl4 (fun u hu => by simp at hu; rw [hu]; rfl) (by omega) (by omega)
  refine ⟨v',w5,hr,?_,((((hE.trans hE4).mod (S := fun k => w.heap.size ≤ k)).trans (hM5.weaken fun k hk => by have := own_ge ho hk.1; omega))).ext fun _ h => h⟩
  have : encB (UInt8.ofNat (48 + x % 10)) = u8 ((48 + x % 10 : Nat) : Int) := by
   show u8 _ = u8 _
   rw [UInt8.toNat_ofNat_of_lt' (show 48 + x % 10 < 256 by omega)]
  rw [List.map_append,List.length_append]
  simp only [List.map_cons,List.map_nil,this]
  exact ho5
 obtain ⟨v',w5,hr5,ho5,hE5⟩ := ap x
 have tm : (x : Int).tmod 10 = ((x % 10 : Nat) : Int) := by rw [Int.tmod_eq_emod_of_nonneg (by omega)]; omega
 have td : (x : Int).tdiv 10 = ((x / 10 : Nat) : Int) := by rw [Int.tdiv_eq_ediv_of_nonneg (by omega)]; omega
 have w64 : IntKind.u64.wrap (48 + ((x % 10 : Nat) : Int)) = ((48 + x % 10 : Nat) : Int) := by rw [wrap64u _ (by omega) (by omega)]; omega
 have wd : IntKind.u64.wrap ((x / 10 : Nat) : Int) = ((x / 10 : Nat) : Int) := wrap64u _ (by omega) (by omega)
 have w8 : IntKind.u8.wrap ((48 + x % 10 : Nat) : Int) = ((48 + x % 10 : Nat) : Int) := wrap8u _ (by omega) (by omega)
 have fin : x ≠ 0 ∨ r = [] → Lib.decDigits u = ddT (x / 10) ++ (r ++ [UInt8.ofNat (48 + x % 10)]).reverse := by
  intro hgo
  rw [List.reverse_append]
  by_cases hr : r = []
  ·rw [← h1 hr,dec_step,hr]; rfl
  ·rw [h2 hr,ddT,if_neg (hgo.resolve_right hr),dec_step x]; simp
 by_cases hp : 0 < x
 ·simp [-Int.natCast_emod,-Int.natCast_ediv,-Int.natCast_add,e3,e4,hp,tm,td,w64,w8,wd,hr5]
  exact ⟨x / 10,by split <;> omega,x / 10,v',r ++ [UInt8.ofNat (48 + x % 10)],by simp,rfl,rfl,by omega,ho5,hE5,fun h => absurd h (by simp),fun _ => fin (.inl (by omega))⟩
 ·by_cases hr : r = []
  ·simp [-Int.natCast_emod,-Int.natCast_ediv,-Int.natCast_add,e3,e4,ln,hp,hr,tm,td,w64,w8,wd,hr5]
   have f0 := fin (.inr hr)
   exact ⟨x / 10,by omega,x / 10,v',r ++ [UInt8.ofNat (48 + x % 10)],by simp,rfl,rfl,by omega,ho5,hE5,fun h => absurd h (by simp),fun _ => f0⟩
  ·simp [e3,e4,ln,hp,hr]
   refine FN.mono (rev_c ho (by omega)) ?_
   rintro _ w6 ⟨⟨u6,rfl⟩,ho6,hM6⟩
   have cv := conv_t (b := r.reverse) (by rw [List.length_reverse]; exact (sl_of_own ho6).toB) 9 (by simp)
   simp [e3,cv]
   rw [h2 hr,show x = 0 by omega]
   refine ⟨by simp [ddT],(hE.mod.trans (hM6.weaken fun k hk => ?_)).ext fun _ h => h⟩
   have := own_ge ho (own_nil ho (by have := List.length_pos_iff.2 hr; omega))
   omega
set_option maxHeartbeats 1000000 in
theorem t64_c {w : World} (u : Nat) (hu : u ≤ 18446744073709551615) : FN Tryz.prog 109 [Value.int .u64 u] w fun e w' => e = .returned (tv (Lib.decDigits u)) ∧ Ext w w' := by
 refine FN_enter Tryz.func109 rfl rfl (by kernel_rfl) ?_
 have hE0 : Ext w (w.alloc (.cells #[] 5)) := (Ext.refl _).alloc _
 have o0 := own_empty (e := 5) (s := 1) w w.heap.size (Nat.le_refl _)
 have wu : IntKind.u64.wrap (u : Int) = u := wrap64u _ (by omega) (by omega)
 simp
 obtain ⟨B,hB⟩ : ∃ B,w.heap.size = B := ⟨_,rfl⟩
 rw [hB] at o0 ⊢
 generalize (w.alloc (.cells #[] 5)) = w0 at *
 refine WC_loop (fun m ρ ds w' => ∃ (x : Nat) (v : Value) (r : Tx), m = x + (if r = [] then 1 else 0) ∧ ρ 3 = v ∧ ρ 4 = u64 x ∧ ds = [] ∧ x ≤ u ∧ w'.ownsRow B 5 1 v r.length (r.map encB) ∧ Ext w w' ∧ (r = [] → x = u) ∧ (r ≠ [] → Lib.decDigits u = ddT x ++ r.reverse)) (u + 1)
  ⟨u,_,[],by simp,rfl,rfl,rfl,Nat.le_refl _,o0,hE0,fun _ => rfl,fun h => absurd rfl h⟩ ?_
 rintro m ρ ds w3 ⟨x,v,r,rfl,e3,e4,rfl,hx,ho,hE,h1,h2⟩
 have hnd := nd20 u (by omega)
 have hrl : r.length ≤ 20 := by
  by_cases hr : r = []
  ·simp [hr]
  ·have := congrArg List.length (h2 hr)
   rw [Lib.decDigits_length,List.length_append,List.length_reverse] at this
   omega
 have ln := fun ty W => (sl_of_own ho).isLen (P := Tryz.prog) (t := 27) (by simp) ty W
 have ap : ∀ (x : Nat), ∃ v' w5, (Builtin.append_ #[27, 27] 27 #[v, .slice (some ⟨w3.heap.size, 0, none⟩) 1 1]).run Tryz.prog (w3.alloc (.cells #[u8 ((48 + x % 10 : Nat) : Int)] 5)) = .ok v' w5 ∧ w5.ownsRow B 5 1 v' (r ++ [UInt8.ofNat (48 + x % 10)]).length ((r ++ [UInt8.ofNat (48 + x % 10)]).map encB) ∧ Ext w w5 := by
  intro x
  have hE4 : Ext w3 (w3.alloc (.cells #[u8 ((48 + x % 10 : Nat) : Int)] 5)) := (Ext.refl _).alloc _
  have sl4 : Sl (w3.alloc (.cells #[u8 ((48 + x % 10 : Nat) : Int)] 5)) 1 (.slice (some ⟨w3.heap.size,0,none⟩) 1 1) 1 [u8 ((48 + x % 10 : Nat) : Int)] := Sl.made w3 [u8 ((48 + x % 10 : Nat) : Int)] 5 1 1 rfl
  have zE := hE.size
  have z4 := hE4.size
  obtain ⟨v',w5,hr,ho5,hM5,-⟩ := append_own (P := Tryz.prog) (t := 27) (ty := 27) (e := 5) (s := 1) (by simp) (by simp) (by kernel_rfl) (own_ext ho hE4) sl4 (fun u hu => by simp at hu; rw [hu]; rfl) (by omega) (by omega)
  refine ⟨v',w5,hr,?_,((((hE.trans hE4).mod (S := fun k => w.heap.size ≤ k)).trans (hM5.weaken fun k hk => by have := own_ge ho hk.1; omega))).ext fun _ h => h⟩
  have : encB (UInt8.ofNat (48 + x % 10)) = u8 ((48 + x % 10 : Nat) : Int) := by
   show u8 _ = u8 _
   rw [UInt8.toNat_ofNat_of_lt' (show 48 + x % 10 < 256 by omega)]
  rw [List.map_append,List.length_append]
  simp only [List.map_cons,List.map_nil,this]
  exact ho5
 obtain ⟨v',w5,hr5,ho5,hE5⟩ := ap x
 have tm : (x : Int).tmod 10 = ((x % 10 : Nat) : Int) := by rw [Int.tmod_eq_emod_of_nonneg (by omega)]; omega
 have td : (x : Int).tdiv 10 = ((x / 10 : Nat) : Int) := by rw [Int.tdiv_eq_ediv_of_nonneg (by omega)]; omega
 have w64 : IntKind.u64.wrap (48 + ((x % 10 : Nat) : Int)) = ((48 + x % 10 : Nat) : Int) := by rw [wrap64u _ (by omega) (by omega)]; omega
 have wd : IntKind.u64.wrap ((x / 10 : Nat) : Int) = ((x / 10 : Nat) : Int) := wrap64u _ (by omega) (by omega)
 have w8 : IntKind.u8.wrap ((48 + x % 10 : Nat) : Int) = ((48 + x % 10 : Nat) : Int) := wrap8u _ (by omega) (by omega)
 have fin : x ≠ 0 ∨ r = [] → Lib.decDigits u = ddT (x / 10) ++ (r ++ [UInt8.ofNat (48 + x % 10)]).reverse := by
  intro hgo
  rw [List.reverse_append]
  by_cases hr : r = []
  ·rw [← h1 hr,dec_step,hr]; rfl
  ·rw [h2 hr,ddT,if_neg (hgo.resolve_right hr),dec_step x]; simp
 by_cases hp : 0 < x
 ·simp [-Int.natCast_emod,-Int.natCast_ediv,-Int.natCast_add,e3,e4,hp,tm,td,w64,w8,wd,hr5]
  exact ⟨x / 10,by split <;> omega,x / 10,v',r ++ [UInt8.ofNat (48 + x % 10)],by simp,rfl,rfl,by omega,ho5,hE5,fun h => absurd h (by simp),fun _ => fin (.inl (by omega))⟩
 ·by_cases hr : r = []
  ·simp [-Int.natCast_emod,-Int.natCast_ediv,-Int.natCast_add,e3,e4,ln,hp,hr,tm,td,w64,w8,wd,hr5]
   have f0 := fin (.inr hr)
   exact ⟨x / 10,by omega,x / 10,v',r ++ [UInt8.ofNat (48 + x % 10)],by simp,rfl,rfl,by omega,ho5,hE5,fun h => absurd h (by simp),fun _ => f0⟩
  ·simp [e3,e4,ln,hp,hr]
   refine FN.mono (rev_c ho (by omega)) ?_
   rintro _ w6 ⟨⟨u6,rfl⟩,ho6,hM6⟩
   have cv := conv_t (b := r.reverse) (by rw [List.length_reverse]; exact (sl_of_own ho6).toB) 9 (by simp)
   simp [e3,cv]
   rw [h2 hr,show x = 0 by omega]
   refine ⟨by simp [ddT],(hE.mod.trans (hM6.weaken fun k hk => ?_)).ext fun _ h => h⟩
   have := own_ge ho (own_nil ho (by have := List.length_pos_iff.2 hr; omega))
   omega
set_option maxHeartbeats 1000000 in
theorem t8_c {w : World} (u : Nat) (hu : u ≤ 255) : FN Tryz.prog 71 [Value.int .u8 u] w fun e w' => e = .returned (tv (Lib.decDigits u)) ∧ Ext w w' := by
 refine FN_enter Tryz.func71 rfl rfl (by kernel_rfl) ?_
 have hE0 : Ext w (w.alloc (.cells #[] 5)) := (Ext.refl _).alloc _
 have o0 := own_empty (e := 5) (s := 1) w w.heap.size (Nat.le_refl _)
 have wu : IntKind.u64.wrap (u : Int) = u := wrap64u _ (by omega) (by omega)
 simp [wu]
 obtain ⟨B,hB⟩ : ∃ B,w.heap.size = B := ⟨_,rfl⟩
 rw [hB] at o0 ⊢
 generalize (w.alloc (.cells #[] 5)) = w0 at *
 refine WC_loop (fun m ρ ds w' => ∃ (x : Nat) (v : Value) (r : Tx), m = x + (if r = [] then 1 else 0) ∧ ρ 3 = v ∧ ρ 4 = u64 x ∧ ds = [] ∧ x ≤ u ∧ w'.ownsRow B 5 1 v r.length (r.map encB) ∧ Ext w w' ∧ (r = [] → x = u) ∧ (r ≠ [] → Lib.decDigits u = ddT x ++ r.reverse)) (u + 1)
  ⟨u,_,[],by simp,rfl,rfl,rfl,Nat.le_refl _,o0,hE0,fun _ => rfl,fun h => absurd rfl h⟩ ?_
 rintro m ρ ds w3 ⟨x,v,r,rfl,e3,e4,rfl,hx,ho,hE,h1,h2⟩
 have hnd := nd20 u (by omega)
 have hrl : r.length ≤ 20 := by
  by_cases hr : r = []
  ·simp [hr]
  ·have := congrArg List.length (h2 hr)
   rw [Lib.decDigits_length,List.length_append,List.length_reverse] at this
   omega
 have ln := fun ty W => (sl_of_own ho).isLen (P := Tryz.prog) (t := 27) (by simp) ty W
 have ap : ∀ (x : Nat), ∃ v' w5, (Builtin.append_ #[27, 27] 27 #[v, .slice (some ⟨w3.heap.size, 0, none⟩) 1 1]).run Tryz.prog (w3.alloc (.cells #[u8 ((48 + x % 10 : Nat) : Int)] 5)) = .ok v' w5 ∧ w5.ownsRow B 5 1 v' (r ++ [UInt8.ofNat (48 + x % 10)]).length ((r ++ [UInt8.ofNat (48 + x % 10)]).map encB) ∧ Ext w w5 := by
  intro x
  have hE4 : Ext w3 (w3.alloc (.cells #[u8 ((48 + x % 10 : Nat) : Int)] 5)) := (Ext.refl _).alloc _
  have sl4 : Sl (w3.alloc (.cells #[u8 ((48 + x % 10 : Nat) : Int)] 5)) 1 (.slice (some ⟨w3.heap.size,0,none⟩) 1 1) 1 [u8 ((48 + x % 10 : Nat) : Int)] := Sl.made w3 [u8 ((48 + x % 10 : Nat) : Int)] 5 1 1 rfl
  have zE := hE.size
  have z4 := hE4.size
  obtain ⟨v',w5,hr,ho5,hM5,-⟩ := append_own (P := Tryz.prog) (t := 27) (ty := 27) (e := 5) (s := 1) (by simp) (by simp) (by kernel_rfl) (own_ext ho hE4) sl4 (fun u hu => by simp at hu; rw [hu]; rfl) (by omega) (by omega)
  refine ⟨v',w5,hr,?_,((((hE.trans hE4).mod (S := fun k => w.heap.size ≤ k)).trans (hM5.weaken fun k hk => by have := own_ge ho hk.1; omega))).ext fun _ h => h⟩
  have : encB (UInt8.ofNat (48 + x % 10)) = u8 ((48 + x % 10 : Nat) : Int) := by
   show u8 _ = u8 _
   rw [UInt8.toNat_ofNat_of_lt' (show 48 + x % 10 < 256 by omega)]
  rw [List.map_append,List.length_append]
  simp only [List.map_cons,List.map_nil,this]
  exact ho5
 obtain ⟨v',w5,hr5,ho5,hE5⟩ := ap x
 have tm : (x : Int).tmod 10 = ((x % 10 : Nat) : Int) := by rw [Int.tmod_eq_emod_of_nonneg (by omega)]; omega
 have td : (x : Int).tdiv 10 = ((x / 10 : Nat) : Int) := by rw [Int.tdiv_eq_ediv_of_nonneg (by omega)]; omega
 have w64 : IntKind.u64.wrap (48 + ((x % 10 : Nat) : Int)) = ((48 + x % 10 : Nat) : Int) := by rw [wrap64u _ (by omega) (by omega)]; omega
 have wd : IntKind.u64.wrap ((x / 10 : Nat) : Int) = ((x / 10 : Nat) : Int) := wrap64u _ (by omega) (by omega)
 have w8 : IntKind.u8.wrap ((48 + x % 10 : Nat) : Int) = ((48 + x % 10 : Nat) : Int) := wrap8u _ (by omega) (by omega)
 have fin : x ≠ 0 ∨ r = [] → Lib.decDigits u = ddT (x / 10) ++ (r ++ [UInt8.ofNat (48 + x % 10)]).reverse := by
  intro hgo
  rw [List.reverse_append]
  by_cases hr : r = []
  ·rw [← h1 hr,dec_step,hr]; rfl
  ·rw [h2 hr,ddT,if_neg (hgo.resolve_right hr),dec_step x]; simp
 by_cases hp : 0 < x
 ·simp [-Int.natCast_emod,-Int.natCast_ediv,-Int.natCast_add,e3,e4,hp,tm,td,w64,w8,wd,hr5]
  exact ⟨x / 10,by split <;> omega,x / 10,v',r ++ [UInt8.ofNat (48 + x % 10)],by simp,rfl,rfl,by omega,ho5,hE5,fun h => absurd h (by simp),fun _ => fin (.inl (by omega))⟩
 ·by_cases hr : r = []
  ·simp [-Int.natCast_emod,-Int.natCast_ediv,-Int.natCast_add,e3,e4,ln,hp,hr,tm,td,w64,w8,wd,hr5]
   have f0 := fin (.inr hr)
   exact ⟨x / 10,by omega,x / 10,v',r ++ [UInt8.ofNat (48 + x % 10)],by simp,rfl,rfl,by omega,ho5,hE5,fun h => absurd h (by simp),fun _ => f0⟩
  ·simp [e3,e4,ln,hp,hr]
   refine FN.mono (rev_c ho (by omega)) ?_
   rintro _ w6 ⟨⟨u6,rfl⟩,ho6,hM6⟩
   have cv := conv_t (b := r.reverse) (by rw [List.length_reverse]; exact (sl_of_own ho6).toB) 9 (by simp)
   simp [e3,cv]
   rw [h2 hr,show x = 0 by omega]
   refine ⟨by simp [ddT],(hE.mod.trans (hM6.weaken fun k hk => ?_)).ext fun _ h => h⟩
   have := own_ge ho (own_nil ho (by have := List.length_pos_iff.2 hr; omega))
   omega
def LdS (w w' : World) (o : Option Tx) (e : Ending) : Prop := Ext w w' ∧ match o with
 | none => e = .panicked panS
 | some t => e = .returned (tv t)
def capT (M u : Nat) : Option Tx := if u ≤ M then some (Lib.decDigits u) else none
theorem long63_c (w : World) (u : Nat) (hu : u ≤ 18446744073709551615) : FN Tryz.prog 47 [u64 u] w fun e w' => LdS w w' (capT 9223372036854775807 u) e := by
 refine FN_enter Tryz.func47 rfl rfl (by kernel_rfl) ?_
 unfold capT LdS
 by_cases h : u ≤ 9223372036854775807
 ·have h' : (u : Int) ≤ 9223372036854775807 := by omega
  simp [h,h']
  refine FN.mono (smust_t w) ?_
  rintro _ w1 ⟨⟨u1,rfl⟩,rfl⟩
  simp
  refine FN.mono (t64_c u hu) ?_
  rintro _ w2 ⟨rfl,hE⟩
  simp
  exact ⟨hE,by rw [if_pos h]⟩
 ·have h' : ¬ (u : Int) ≤ 9223372036854775807 := by omega
  simp [h,h']
  refine FN.mono (smust_f w) ?_
  rintro _ w1 ⟨rfl,rfl⟩
  simp
  exact ⟨Ext.refl _,by rw [if_neg h]; trivial⟩
theorem node32_c (w : World) (u : Nat) (hu : u ≤ 18446744073709551615) : FN Tryz.prog 64 [u64 u] w fun e w' => LdS w w' (capT 4294967295 u) e := by
 refine FN_enter Tryz.func64 rfl rfl (by kernel_rfl) ?_
 unfold capT LdS
 by_cases h : u ≤ 4294967295
 ·have h' : (u : Int) ≤ 4294967295 := by omega
  simp [h,h']
  refine FN.mono (smust_t w) ?_
  rintro _ w1 ⟨⟨u1,rfl⟩,rfl⟩
  simp
  refine FN.mono (t64_c u hu) ?_
  rintro _ w2 ⟨rfl,hE⟩
  simp
  exact ⟨hE,by rw [if_pos h]⟩
 ·have h' : ¬ (u : Int) ≤ 4294967295 := by omega
  simp [h,h']
  refine FN.mono (smust_f w) ?_
  rintro _ w1 ⟨rfl,rfl⟩
  simp
  exact ⟨Ext.refl _,by rw [if_neg h]; trivial⟩
end Go.Proofs
namespace Go.Proofs
open Pk
set_option maxRecDepth 10000
attribute [local simp] beq_dec bne_dec
def hxc (n : Nat) : UInt8 := hexL.getD n 0
def hexT : List UInt8 → Tx
 | [] => []
 | c :: r => hxc (c.toNat / 16) :: hxc (c.toNat % 16) :: hexT r
def hexO (b : List UInt8) : Tx := if b = [] then [45] else hexT b
theorem hexT_append : ∀ (a b : List UInt8), hexT (a ++ b) = hexT a ++ hexT b
 | [],b => rfl
 | c :: r,b => by simp [hexT,hexT_append r b]
theorem hexT_len : ∀ (a : List UInt8), (hexT a).length = 2 * a.length
 | [] => rfl
 | c :: r => by simp [hexT,hexT_len r]; omega
theorem mod_below {B : Nat} {w w' : World} (h : Go.RowKit.Below B w w') : Mod (fun k => B ≤ k) w w' := ⟨h.os,h.tape,h.output,h.size,fun b _ hb => h.block b (by omega)⟩
theorem builder0 (w : World) (B : Nat) (h : B ≤ w.heap.size) : Lib.IsBuilderF 136 5 B w.heap.size [] (w.alloc (.cells #[.pointer none, .slice none 0 0] 136)) := by
 refine .inl ⟨h, _, World.alloc_heap_new w _, ?_, ?_⟩
 ·exact Go.World.ownsRowF_of (own_nothing _ _ _ _)
 ·simp [Value.ownBlock]
abbrev hexB : ByteArray := ⟨#[48,49,50,51,52,53,54,55,56,57,97,98,99,100,101,102]⟩
theorem hx_el : ∀ n : Fin 16,((hexB[n.val]'(show n.val < hexB.size from n.isLt)).toNat : Int) = (hxc n.val).toNat := by decide +kernel
theorem hx_ix (n : Nat) (h : n < 16) (W : World) : (Instr.index 9 (.string hexB) (.int .u8 (n : Int))).run Tryz.prog W = .ok (u8 (hxc n).toNat) W := by
 have hs : hexB.size = 16 := rfl
 rw [r_index_str Tryz.prog W 9 hexB .u8 n (by simp) (by rw [hs]; exact h)]
 rw [hx_el ⟨n,h⟩]
theorem shr4 : ∀ n : Fin 256,shrI .u8 (n.val : Int) 4 = ((n.val / 16 : Nat) : Int) := by decide +kernel
theorem and15 : ∀ n : Fin 256,andI .u8 (n.val : Int) 15 = ((n.val % 16 : Nat) : Int) := by decide +kernel
set_option maxHeartbeats 1000000 in
theorem hex_c {w : World} {v : Value} {b : List UInt8} (h : SlB w 1 v b.length (b.map encB)) (hl : b.length ≤ 1000000) : FN Tryz.prog 116 [v] w fun e w' => e = .returned (tv (hexO b)) ∧ Ext w w' := by
 refine FN_enter Tryz.func116 rfl rfl (by kernel_rfl) ?_
 have ln := fun ty W => h.isLen (P := Tryz.prog) (t := 27) (by simp) ty W
 by_cases hb : b = []
 ·subst hb
  simp [ln]
  exact ⟨by simp [hexO],Ext.refl _⟩
 have hp : ¬ (b.length : Int) = 0 := by have := List.length_pos_iff.2 hb; omega
 have h0 := builder0 w w.heap.size (Nat.le_refl _)
 have hE0 : Ext w (w.alloc (.cells #[.pointer none,.slice none 0 0] 136)) := (Ext.refl _).alloc _
 simp [ln,hb]
 obtain ⟨B,hB⟩ : ∃ B,w.heap.size = B := ⟨_,rfl⟩
 have hsl := h.lt (by simp; have := List.length_pos_iff.2 hb; omega)
 rw [hB] at h0 hsl ⊢
 generalize (w.alloc (.cells #[.pointer none,.slice none 0 0] 136)) = w0 at *
 refine WC_loop (fun m ρ ds w' => ∃ (i : Nat), m = b.length - i ∧ i ≤ b.length ∧ ρ 3 = ptr B ∧ ρ 9 = v ∧ ρ 10 = i64 b.length ∧ ρ 11 = i64 i ∧ ds = [] ∧ Lib.IsBuilderF 136 5 B B (Lib.byteCells (hexT (b.take i))) w' ∧ Mod (fun k => B ≤ k) w w') b.length
  ⟨0,by simp,by simp,rfl,rfl,rfl,rfl,rfl,by simpa [hexT,Lib.byteCells] using h0,hE0.mod⟩ ?_
 rintro m ρ ds w3 ⟨i,rfl,hi,e3,e9,e10,e11,rfl,hI,hM⟩
 by_cases hlt : i < b.length
 ·have hlt' : (i : Int) < b.length := by omega
  have sW := h.mod hM (fun _ => by omega)
  have ik := fun W => sW.index (P := Tryz.prog) (t := 27) (by simp) .i64 i (by omega) (by omega) W
  have ck := sW.at_ i (encB b[i]) (by simp [hlt])
  have sh := shr4 ⟨b[i].toNat,b[i].toNat_lt⟩
  have an := and15 ⟨b[i].toNat,b[i].toNat_lt⟩
  have x1 := fun W => hx_ix (b[i].toNat / 16) (by have := b[i].toNat_lt; omega) W
  have x2 := fun W => hx_ix (b[i].toNat % 16) (by omega) W
  simp only at sh an
  simp [-Int.natCast_emod,-Int.natCast_ediv,e3,e9,e10,e11,hlt,ik,ck,sh,x1]
  have hle : (hexT (b.take i)).length ≤ 2000000 := by rw [hexT_len,List.length_take]; omega
  refine FN.mono (FN_of_calls Tryz.func127 rfl rfl (Tryz.Builder_WriteByte_k B B _ ((hxc (b[i].toNat / 16)).toNat : Int) w3 hI (by rw [Lib.byteCells_length]; omega) (by have := hM.size; omega))) ?_
  rintro _ w4 ⟨rfl,h4,b4,-⟩
  have M4 := hM.trans (mod_below b4)
  have e4 : Lib.byteCells (hexT (b.take i)) ++ [u8 ((hxc (b[i].toNat / 16)).toNat : Int)] = Lib.byteCells (hexT (b.take i) ++ [hxc (b[i].toNat / 16)]) := by rw [Lib.byteCells_append]; rfl
  rw [e4] at h4
  simp [-Int.natCast_emod,-Int.natCast_ediv,e3,an,x2]
  refine FN.mono (FN_of_calls Tryz.func127 rfl rfl (Tryz.Builder_WriteByte_k B B _ ((hxc (b[i].toNat % 16)).toNat : Int) w4 (.inr h4) (by rw [Lib.byteCells_length,List.length_append]; simp; omega) (by have := M4.size; omega))) ?_
  rintro _ w5 ⟨rfl,h5,b5,-⟩
  have M5 := M4.trans (mod_below b5)
  have e5 : Lib.byteCells (hexT (b.take i) ++ [hxc (b[i].toNat / 16)]) ++ [u8 ((hxc (b[i].toNat % 16)).toNat : Int)] = Lib.byteCells (hexT (b.take (i + 1))) := by
   rw [List.take_add_one,hexT_append,Lib.byteCells_append,Lib.byteCells_append,List.getElem?_eq_getElem hlt,List.append_assoc]
   rfl
  rw [e5] at h5
  have wi : IntKind.i64.wrap ((i : Int) + 1) = i + 1 := wrap64 _ (by omega) (by omega)
  simp [e3,e9,e10,e11,wi]
  exact ⟨b.length - (i + 1),by omega,i + 1,rfl,by omega,by omega,.inr h5,M5⟩
 ·have hi' : i = b.length := by omega
  subst hi'
  simp [e3,e10,e11]
  rw [List.take_length] at hI
  refine FN.mono (FN_of_calls Tryz.func88 rfl rfl (Tryz.Builder_String_any_k B B _ w3 hI (by have := hM.size; omega))) ?_
  rintro _ w4 ⟨rfl,-,b4,-⟩
  simp
  exact ⟨by simp [hexO,hb],(hM.trans (mod_below b4)).ext fun _ h => by omega⟩
def bitT (b : Bool) : UInt8 := if b then 49 else 48
def bitsO (l : List Bool) : Tx := if l = [] then [45] else l.map bitT
theorem keyEq_bool {K : TypeId} (hK : Tryz.prog.underlying K = some .bool) : KeyEq Tryz.prog K Value.bool where
 find := by
  intro k es m w he
  have hu := run_und hK w
  have key : ∀ (es : List MapEntry) (m : List Bool) (i : Nat), es.map (·.key) = m.map Value.bool →
    Instr.findNow .bool (.bool k) es i = some ((m.findIdx? (fun x => decide (x = k))).bind fun j => (es[j]?).map fun e => (i + j,e.val)) := by
   intro es
   induction es with
   | nil => intro m i h; cases m with
    | nil => rfl
    | cons => simp at h
   | cons e es ih =>
    intro m i h
    cases m with
    | nil => simp at h
    | cons x m =>
     simp only [List.map_cons,List.cons.injEq] at h
     simp only [Instr.findNow,h.1,Instr.sameNow,List.findIdx?_cons]
     by_cases hx : x = k
     ·subst hx; simp
     ·have h1 : (k == x) = false := by simpa using Ne.symm hx
      simp only [h1,ih m (i + 1) h.2,hx,decide_false]
      cases m.findIdx? (fun x => decide (x = k)) with
      | none => rfl
      | some j => simp only [Option.map_some,Option.bind_some]; congr 2; funext e; congr 1; omega
  unfold Instr.findKey
  simp only [Sem.run_bind,hu,Result.andThen_ok,key es m 0 he,Sem.run_pure]
  simp
 check := by
  intro b k w
  have hu := run_und hK w
  have e : ∀ d, (Instr.checkKey b (d + 1) K (.bool k)).run Tryz.prog w = .ok () w := fun d => by
   simp only [Instr.checkKey,Sem.run_bind,hu,Result.andThen_ok,Sem.run_pure]
  exact e 9999
 same := by
  intro k w
  have e : Instr.sameBits 10000 (.bool k) (.bool k) = true := by cases k <;> rfl
  unfold Instr.keyThatStays
  rw [if_pos e]
  rfl
theorem builder_ext {T e : TypeId} {B b : Nat} {bs : List Value} {w w' : World} (h : Lib.IsBuilderF T e B b bs w) (hE : Ext w w') : Lib.IsBuilderF T e B b bs w' := by
 have k : ∀ p, Lib.BuilderAtF T e B b p bs w → Lib.BuilderAtF T e B b p bs w' := by
  rintro p ⟨h1,v,h2,h3,h4⟩
  refine ⟨h1,v,by rw [hE.blk b (Array.getElem?_eq_some_iff.1 h2).1]; exact h2,⟨h3.1,?_⟩,h4⟩
  rcases h3.2 with hn | ⟨g, cap, cur, fz, hv, hb, hg, rest⟩
  ·exact .inl hn
  ·exact .inr ⟨g,cap,cur,fz,hv,hb,by rw [hE.blk g (Array.getElem?_eq_some_iff.1 hg).1]; exact hg,rest⟩
 exact h.elim (fun x => .inl (k _ x)) (fun x => .inr (k _ x))
theorem kbo : KeyEq Tryz.prog 4 Value.bool := keyEq_bool (by simp)
theorem tbm : Tryz.prog.underlying 178 = some (.map 4 5) := by simp
theorem zby (w : World) : (zeroValue 5).run Tryz.prog w = .ok (u8 0) w := by simp
set_option maxHeartbeats 1000000 in
theorem bits_c {w : World} {v : Value} {b : List Bool} (h : SlB w 1 v b.length (b.map Value.bool)) (hl : b.length ≤ 1000000) : FN Tryz.prog 79 [v] w fun e w' => e = .returned (tv (bitsO b)) ∧ Ext w w' := by
 refine FN_enter Tryz.func79 rfl rfl (by kernel_rfl) ?_
 have ln := fun ty W => h.isLen (P := Tryz.prog) (t := 43) (by simp) ty W
 by_cases hb : b = []
 ·subst hb
  simp [ln]
  exact ⟨by simp [bitsO],Ext.refl _⟩
 have h0 := builder0 w w.heap.size (Nat.le_refl _)
 have hE0 : Ext w (w.alloc (.cells #[.pointer none,.slice none 0 0] 136)) := (Ext.refl _).alloc _
 simp [ln,hb]
 obtain ⟨B,hB⟩ : ∃ B,w.heap.size = B := ⟨_,rfl⟩
 have hsl := h.lt (by simp; have := List.length_pos_iff.2 hb; omega)
 rw [hB] at h0 hsl ⊢
 generalize (w.alloc (.cells #[.pointer none,.slice none 0 0] 136)) = w0 at *
 refine WC_loop (fun m ρ ds w' => ∃ (i : Nat), m = b.length - i ∧ i ≤ b.length ∧ ρ 3 = ptr B ∧ ρ 9 = v ∧ ρ 10 = i64 b.length ∧ ρ 11 = i64 i ∧ ds = [] ∧ Lib.IsBuilderF 136 5 B B (Lib.byteCells ((b.take i).map bitT)) w' ∧ Mod (fun k => B ≤ k) w w') b.length
  ⟨0,by simp,by simp,rfl,rfl,rfl,rfl,rfl,by simpa [Lib.byteCells] using h0,hE0.mod⟩ ?_
 rintro m ρ ds w3 ⟨i,rfl,hi,e3,e9,e10,e11,rfl,hI,hM⟩
 by_cases hlt : i < b.length
 ·have sW := h.mod hM (fun _ => by omega)
  have ik := fun W => sW.index (P := Tryz.prog) (t := 43) (by simp) .i64 i (by omega) (by omega) W
  have ck := sW.at_ i (.bool b[i]) (by simp [hlt])
  have m0 := MapAt.alloc0 Value.bool (fun n : Int => u8 n) w3
  have hE3 : Ext w3 (w3.alloc (.map #[] 0)) := (Ext.refl _).alloc _
  have hm3 : Mod (fun k => w3.heap.size ≤ k) w3 (w3.alloc (.map #[] 0)) := hE3.mod
  obtain ⟨w4,u4,m4,H4,-⟩ := m0.update (P := Tryz.prog) kbo tbm false 48
  obtain ⟨w5,u5,m5,H5,-⟩ := m4.update (P := Tryz.prog) kbo tbm true 49
  have E5 : Ext w3 w5 := ((hm3.trans (H4.weaken fun k hk => by omega)).trans (H5.weaken fun k hk => by omega)).ext fun _ h => h
  have lk := m5.lookup (P := Tryz.prog) kbo tbm (zby w5) b[i] false
  have lv : ((mget (mset (mset [] false (48 : Int)) true 49) b[i]).map (fun n : Int => u8 n)).getD (u8 0) = u8 ((bitT b[i]).toNat : Int) := by cases b[i] <;> rfl
  rw [lv] at lk
  simp only [Bool.false_eq_true,if_false] at lk
  have hI5 := builder_ext hI E5
  have M5 : Mod (fun k => B ≤ k) w w5 := hM.trans E5.mod
  simp [e3,e9,e10,e11,hlt,ik,ck,u4,u5,lk]
  refine FN.mono (FN_of_calls Tryz.func127 rfl rfl (Tryz.Builder_WriteByte_k B B _ ((bitT b[i]).toNat : Int) w5 hI5 (by rw [Lib.byteCells_length]; simp; omega) (by have := M5.size; omega))) ?_
  rintro _ w6 ⟨rfl,h6,b6,-⟩
  have M6 := M5.trans (mod_below b6)
  have e6 : Lib.byteCells ((b.take i).map bitT) ++ [u8 ((bitT b[i]).toNat : Int)] = Lib.byteCells ((b.take (i + 1)).map bitT) := by
   rw [List.take_add_one,List.map_append,Lib.byteCells_append,List.getElem?_eq_getElem hlt]
   rfl
  rw [e6] at h6
  have wi : IntKind.i64.wrap ((i : Int) + 1) = i + 1 := wrap64 _ (by omega) (by omega)
  simp [e3,e9,e10,e11,wi]
  exact ⟨b.length - (i + 1),by omega,i + 1,rfl,by omega,by omega,by rw [← List.map_take]; exact .inr h6,M6⟩
 ·have hi' : i = b.length := by omega
  subst hi'
  simp [e3,e10,e11]
  rw [List.take_length] at hI
  refine FN.mono (FN_of_calls Tryz.func88 rfl rfl (Tryz.Builder_String_any_k B B _ w3 hI (by have := hM.size; omega))) ?_
  rintro _ w4 ⟨rfl,-,b4,-⟩
  simp
  exact ⟨by simp [bitsO,hb],(hM.trans (mod_below b4)).ext fun _ h => by omega⟩
end Go.Proofs