/-
 Contracts of the functions that the law reaches,step by step.
-/
import Derived.ProofKit
import Derived.OpenShut
import Derived.Test.YtmmneeomcefgbaaGreatDoorAmA
import Derived.Test.YtmmneeomcefgbaaGreatDoorEngR
import Derived.Test.YtmmneeomcefgbaaGreatDoorAmO
namespace Go.Proofs
open Go.ChangeShapes Go.WideShapes Go.ChangeAt Go.RowKit Go.Deep Pk
set_option maxRecDepth 10000
theorem fit_int {cs : List Value} {ks : List CK} {q : IntKind} (h : Fit (.int q :: ks) cs) : ∃ (x : Int) (cs' : List Value), cs = .int q x :: cs' ∧ (Lit.int q x).wf = true ∧ Fit ks cs' := by
 obtain ⟨v1,c1,e1,⟨x,f1,w1⟩,h⟩ := h.cons
 exact ⟨x,c1,by rw [e1,f1],w1,h⟩
theorem fit_bool {cs : List Value} {ks : List CK} (h : Fit (.bool :: ks) cs) : ∃ (x : Bool) (cs' : List Value), cs = .bool x :: cs' ∧ Fit ks cs' := by
 obtain ⟨v1,c1,e1,⟨x,f1⟩,h⟩ := h.cons
 exact ⟨x,c1,by rw [e1,f1],h⟩
end Go.Proofs
namespace Go.Proofs
open Pk
set_option maxRecDepth 10000
def ixInt (l : List Int) (f : Int → Bool) : Int := match l.findIdx? f with | some i => i | none => -1
theorem index_c {w : World} {v : Value} {l : List Int} (h : Sl w 1 v l.length (l.map i64)) (hl : l.length ≤ 1000) (x : Int) : FN Tryz.prog 307 [v, i64 x] w fun e w' => e = .returned (i64 (ixInt l fun y => decide (x = y))) ∧ w' = w := by
 refine FN_enter Tryz.func307 rfl rfl (by kernel_rfl) ?_
 have hlen := fun ty W => h.isLen (P := Tryz.prog) (t := 191) (by simp) ty W
 simp [hlen]
 refine WC_loop (fun k ρ ds w' => ∃ i : Nat,k = l.length - i ∧ i ≤ l.length ∧ ρ 0 = v ∧ ρ 1 = i64 x ∧ ρ 7 = i64 l.length ∧ ρ 8 = i64 i ∧ ds = [] ∧ w' = w ∧ ∀ j,j < i → ∀ y,l[j]? = some y → x ≠ y) l.length ⟨0,by simp,by simp,by simp,by simp,by simp,by simp,rfl,rfl,by omega⟩ ?_
 rintro k ρ ds w1 ⟨i,rfl,hi,e0,e1,e7,e8,rfl,rfl,hno⟩
 by_cases hlt : i < l.length
 ·have hq := List.getElem?_eq_getElem hlt
  have c := h.at_ i (i64 l[i]) (by simp [hlt])
  have ix := h.index (P := Tryz.prog) (t := 191) (by simp) .i64 i (by omega) (by omega) w1
  by_cases hx : x = l[i]
  ·have hres : ixInt l (fun y => decide (x = y)) = i := by
    unfold ixInt
    rw [List.findIdx?_eq_some_iff_getElem.2 ⟨hlt, by simp [hx], fun j hj => by
     have := hno j hj _ (List.getElem?_eq_getElem (by omega))
     simpa using this⟩]
   simp [e0,e1,e7,e8,hlt,ix,c,hx]
   rw [← hx,hres]
  ·have hw1 : IntKind.i64.wrap ((i : Int) + 1) = i + 1 := wrap64 _ (by omega) (by omega)
   simp [beq_dec,e0,e1,e7,e8,hlt,ix,c,hx,hw1]
   refine ⟨l.length - (i + 1),by omega,i + 1,rfl,by omega,by push_cast; rfl,fun j hj y hy => ?_⟩
   by_cases hji : j = i
   ·subst hji; rw [hq] at hy; cases hy; exact hx
   ·exact hno j (by omega) y hy
 ·have hil : i = l.length := by omega
  have hres : ixInt l (fun y => decide (x = y)) = -1 := by
   unfold ixInt
   rw [List.findIdx?_eq_none_iff.2 fun y hy => by
    obtain ⟨j,hj⟩ := List.mem_iff_getElem?.1 hy
    have := hno j (by have := (List.getElem?_eq_some_iff.1 hj).1; omega) y hj
    simpa using this]
  simp [e7,e8,hlt]
  exact hres.symm
def wsL : List Int := [1,2,4,8]
theorem widths_c (w : World) : FN Tryz.prog 324 [] w fun e w' => e = .returned (.agg #[i64 1, i64 2, i64 4, i64 8]) ∧ Ext w w' := by
 refine FN_enter Tryz.func324 rfl rfl (by kernel_rfl) ?_
 simp
 exact (Ext.refl w).alloc _
theorem four_all (b : Nat) (w : World) : (Instr.sliceAt 361 (ptr b) none none none).run Tryz.prog w = .ok (.slice (some ⟨b, 0, none⟩) 4 4) w := by
 have hu : Tryz.prog.underlying 361 = some (.array 4 3) := by simp
 simp [Instr.sliceAt,run_und hu,Instr.sliceBounds]
theorem contains_c {w : World} {v : Value} {l : List Int} (h : Sl w 1 v l.length (l.map i64)) (hl : l.length ≤ 1000) (x : Int) : FN Tryz.prog 339 [v, i64 x] w fun e w' => e = .returned (.bool (decide (0 ≤ ixInt l fun y => decide (x = y)))) ∧ w' = w := by
 refine FN_enter Tryz.func339 rfl rfl (by kernel_rfl) ?_
 simp
 refine FN.mono (index_c h hl x) ?_
 rintro _ w1 ⟨rfl,rfl⟩
 simp
theorem ix_ws (n : Int) : ixInt wsL (fun y => decide (n = y)) = if n = 1 then 0 else if n = 2 then 1 else if n = 4 then 2 else if n = 8 then 3 else -1 := by
 unfold ixInt wsL
 by_cases h1 : n = 1
 ·subst h1; rfl
 by_cases h2 : n = 2
 ·subst h2; rfl
 by_cases h4 : n = 4
 ·subst h4; rfl
 by_cases h8 : n = 8
 ·subst h8; rfl
 rw [if_neg h1,if_neg h2,if_neg h4,if_neg h8]
 simp only [List.findIdx?_cons,List.findIdx?_nil,decide_eq_false h1,decide_eq_false h2,decide_eq_false h4,decide_eq_false h8]
 rfl
theorem four_sl (w : World) : Sl (w.alloc (.cells #[i64 1,i64 2,i64 4,i64 8] 361)) 1 (.slice (some ⟨w.heap.size,0,none⟩) 4 4) 4 (wsL.map i64) := Sl.made w (wsL.map i64) 361 1 4 rfl
theorem isW_c (n : Int) (w : World) : FN Tryz.prog 328 [i64 n] w fun e w' => e = .returned (.bool (decide (n = 1 ∨ n = 2 ∨ n = 4 ∨ n = 8))) ∧ Ext w w' := by
 refine FN_enter Tryz.func328 rfl rfl (by kernel_rfl) ?_
 simp
 refine FN.mono (widths_c w) ?_
 rintro _ w1 ⟨rfl,hE1⟩
 have hS := four_sl w1
 have hE2 : Ext w1 (w1.alloc (.cells #[i64 1,i64 2,i64 4,i64 8] 361)) := (Ext.refl _).alloc _
 simp [four_all]
 generalize (w1.alloc (.cells #[i64 1,i64 2,i64 4,i64 8] 361)) = w2 at *
 refine FN.mono (contains_c (l := wsL) hS (by decide) n) ?_
 rintro _ w3 ⟨rfl,rfl⟩
 simp
 refine ⟨?_,hE1.trans hE2⟩
 rw [ix_ws]
 by_cases h1 : n = 1
 ·simp [h1]
 by_cases h2 : n = 2
 ·simp [h2]
 by_cases h4 : n = 4
 ·simp [h4]
 by_cases h8 : n = 8
 ·simp [h8]
 simp [h1,h2,h4,h8]
def isWid (k : Int) : Prop := k = 1 ∨ k = 2 ∨ k = 4 ∨ k = 8
def fitsB (k n : Int) : Bool := decide (k = 8) || (decide (k = 1) && decide (n < 256) || (decide (k = 2) && decide (n < 65536) || decide (k = 4) && decide (n < 4294967296)))
theorem shr_div (n : Int) (b : Nat) (hb : b ≤ 64) : shrI .u64 n (b : Int) = n / (2 ^ b : Nat) := by
 unfold shrI
 rw [show min (b : Int).toNat IntKind.u64.bits = b from by simp [IntKind.bits]; omega]
 rw [Int.fdiv_eq_ediv_of_nonneg]
 ·simp
 ·exact Int.le_of_lt (Int.pow_pos (by decide))
theorem div_zero_iff (n : Int) (b : Nat) (h0 : 0 ≤ n) (hb : 0 < b) : (n / (b : Int) == 0) = decide (n < b) := by
 rw [Bool.eq_iff_iff,beq_iff_eq,decide_eq_true_iff]
 constructor
 ·intro h
  have := Int.mul_ediv_add_emod n (b : Int)
  have h2 := Int.emod_lt_of_pos n (show (0 : Int) < b by omega)
  rw [h] at this
  omega
 ·intro h
  exact Int.ediv_eq_zero_of_lt h0 h
theorem fits_c {k n : Int} (hk : isWid k) (h0 : 0 ≤ n) (w : World) : FN Tryz.prog 327 [.agg #[i64 k, u64 n]] w fun e w' => e = .returned (.bool (fitsB k n)) ∧ Ext w w' := by
 refine FN_enter Tryz.func327 rfl rfl (by kernel_rfl) ?_
 rcases hk with rfl | rfl | rfl | rfl
 ·have q : IntKind.i64.wrap 8 = 8 := by decide
  have e := shr_div n 8 (by omega)
  simp at e
  have d := div_zero_iff n 256 h0 (by omega)
  simp at d
  simp [fitsB,q,e,d]
  exact (Ext.refl _).alloc _
 ·have q : IntKind.i64.wrap 16 = 16 := by decide
  have e := shr_div n 16 (by omega)
  simp at e
  have d := div_zero_iff n 65536 h0 (by omega)
  simp at d
  simp [fitsB,q,e,d]
  exact (Ext.refl _).alloc _
 ·have q : IntKind.i64.wrap 32 = 32 := by decide
  have e := shr_div n 32 (by omega)
  simp at e
  have d := div_zero_iff n 4294967296 h0 (by omega)
  simp at d
  simp [fitsB,q,e,d]
  exact (Ext.refl _).alloc _
 ·simp [fitsB]
  exact (Ext.refl _).alloc _
end Go.Proofs
namespace Go.Proofs
open Pk
set_option maxRecDepth 10000
def widN (n : Int) : Nat := if n < 256 then 1 else if n < 65536 then 2 else if n < 4294967296 then 4 else 8
def widX (n : Int) : Int := if n < 256 then 0 else if n < 65536 then 1 else if n < 4294967296 then 2 else 3
theorem least1_c {k n : Int} (hk : isWid k) (h0 : 0 ≤ n) (w : World) {b : Nat} (hb : Var w b (u64 n)) : FN Tryz.prog 326 [i64 k, ptr b] w fun e w' => e = .returned (.bool (fitsB k n)) ∧ Ext w w' := by
 refine FN_enter Tryz.func326 rfl rfl (by kernel_rfl) ?_
 simp [hb.cell]
 refine FN.mono (fits_c hk h0 w) ?_
 rintro _ w2 ⟨rfl,hE⟩
 simp
 exact hE
def Tests (f : Value) (w : World) (l : List Int) (g : Int → Bool) : Prop := ∀ y ∈ l,∀ W,Ext w W → CV Tryz.prog f [i64 y] W fun e W' => e = .returned (.bool (g y)) ∧ Ext W W'
theorem ixF_c {w : World} {v : Value} {l : List Int} (h : Sl w 1 v l.length (l.map i64)) (hl : l.length ≤ 1000) {f : Value} {g : Int → Bool} (hf : Tests f w l g) : FN Tryz.prog 338 [v, f] w fun e w' => e = .returned (i64 (ixInt l g)) ∧ Ext w w' := by
 refine FN_enter Tryz.func338 rfl rfl (by kernel_rfl) ?_
 have hlen := fun ty W => h.isLen (P := Tryz.prog) (t := 191) (by simp) ty W
 simp [hlen]
 refine WC_loop (fun k ρ ds w' => ∃ i : Nat,k = l.length - i ∧ i ≤ l.length ∧ ρ 0 = v ∧ ρ 1 = f ∧ ρ 7 = i64 l.length ∧ ρ 8 = i64 i ∧ ds = [] ∧ Ext w w' ∧ ∀ j,j < i → ∀ y,l[j]? = some y → g y = false) l.length ⟨0,by simp,by simp,by simp,by simp,by simp,by simp,rfl,Ext.refl w,by omega⟩ ?_
 rintro k ρ ds w1 ⟨i,rfl,hi,e0,e1,e7,e8,rfl,hE,hno⟩
 by_cases hlt : i < l.length
 ·have hq := List.getElem?_eq_getElem hlt
  have c := (h.ext hE).at_ i (i64 l[i]) (by simp [hlt])
  have ix := h.index (P := Tryz.prog) (t := 191) (by simp) .i64 i (by omega) (by omega) w1
  simp [e0,e1,e7,e8,hlt,ix,c]
  refine CV.mono (hf l[i] (List.getElem_mem hlt) w1 hE) ?_
  rintro _ w2 ⟨rfl,hE2⟩
  cases hx : g l[i] with
  | true =>
   have hres : ixInt l g = i := by
    unfold ixInt
    rw [List.findIdx?_eq_some_iff_getElem.2 ⟨hlt, by simp [hx], fun j hj => by
     have := hno j hj _ (List.getElem?_eq_getElem (by omega))
     simpa using this⟩]
   simp [hres]
   exact hE.trans hE2
  | false =>
   have hw1 : IntKind.i64.wrap ((i : Int) + 1) = i + 1 := wrap64 _ (by omega) (by omega)
   simp [e0,e1,e7,e8,hw1]
   refine ⟨l.length - (i + 1),by omega,i + 1,rfl,by omega,by push_cast; rfl,hE.trans hE2,fun j hj y hy => ?_⟩
   by_cases hji : j = i
   ·subst hji; rw [hq] at hy; cases hy; exact hx
   ·exact hno j (by omega) y hy
 ·have hil : i = l.length := by omega
  have hres : ixInt l g = -1 := by
   unfold ixInt
   rw [List.findIdx?_eq_none_iff.2 fun y hy => by
    obtain ⟨j,hj⟩ := List.mem_iff_getElem?.1 hy
    have := hno j (by have := (List.getElem?_eq_some_iff.1 hj).1; omega) y hj
    simpa using this]
  simp [e7,e8,hlt]
  exact ⟨hres.symm,hE⟩
theorem ix_fits (n : Int) : ixInt wsL (fun k => fitsB k n) = widX n := by
 unfold ixInt wsL widX
 by_cases h1 : n < 256
 ·simp [List.findIdx?_cons,h1,fitsB]
 by_cases h2 : n < 65536
 ·simp [List.findIdx?_cons,h1,h2,fitsB]
 by_cases h4 : n < 4294967296
 ·simp [List.findIdx?_cons,h1,h2,h4,fitsB]
 simp [List.findIdx?_cons,h1,h2,h4,fitsB]
theorem first_c {w : World} {v f : Value} {n : Int} (h : Sl w 1 v wsL.length (wsL.map i64)) (hf : Tests f w wsL fun k => fitsB k n) : FN Tryz.prog 325 [f, v] w fun e w' => e = .returned (i64 (widN n)) ∧ Ext w w' := by
 refine FN_enter Tryz.func325 rfl rfl (by kernel_rfl) ?_
 simp
 refine FN.mono (ixF_c h (by decide) hf) ?_
 rintro _ w2 ⟨rfl,hE⟩
 rw [ix_fits]
 have ix := fun (i : Nat) (hi : i < 4) W => h.index (P := Tryz.prog) (t := 191) (by simp) .i64 i (by omega) (by simpa [wsL] using (show (i : Int) < 4 by omega)) W
 have a := fun i u hu => (h.ext hE).at_ i u hu
 have a0 := a 0 (i64 1) rfl
 have a1 := a 1 (i64 2) rfl
 have a2 := a 2 (i64 4) rfl
 have a3 := a 3 (i64 8) rfl
 have x0 := ix 0 (by omega) w2
 have x1 := ix 1 (by omega) w2
 have x2 := ix 2 (by omega) w2
 have x3 := ix 3 (by omega) w2
 simp at a0 a1 a2 a3 x0 x1 x2 x3
 unfold widX widN
 by_cases h1 : n < 256
 ·simp [h1,x0,a0]; exact hE
 by_cases h2 : n < 65536
 ·simp [h1,h2,x1,a1]; exact hE
 by_cases h4 : n < 4294967296
 ·simp [h1,h2,h4,x2,a2]; exact hE
 simp [h1,h2,h4,x3,a3]; exact hE
theorem least_c {n : Int} (h0 : 0 ≤ n) (w : World) : FN Tryz.prog 305 [u64 n] w fun e w' => e = .returned (i64 (widN n)) ∧ Ext w w' := by
 refine FN_enter Tryz.func305 rfl rfl (by kernel_rfl) ?_
 simp
 have hE0 : Ext w (w.alloc (.cells #[u64 n] 24)) := (Ext.refl w).alloc _
 have v0 := Var.new w (u64 n) 24
 generalize (w.alloc (.cells #[u64 n] 24)) = w0 at *
 refine FN.mono (widths_c w0) ?_
 rintro _ w1 ⟨rfl,hE1⟩
 have hS := four_sl w1
 have hE2 : Ext w1 (w1.alloc (.cells #[i64 1,i64 2,i64 4,i64 8] 361)) := (Ext.refl _).alloc _
 simp [four_all]
 have v2 := (v0.ext hE1).ext hE2
 generalize (w1.alloc (.cells #[i64 1,i64 2,i64 4,i64 8] 361)) = w2 at *
 have hf : Tests (.func (.func 326) #[] #[ptr w.heap.size]) w2 wsL fun k => fitsB k n := by
  intro k hk W hW
  rw [CV_func]
  exact least1_c (by simpa [wsL,isWid] using hk) h0 W (v2.ext hW)
 refine FN.mono (first_c hS hf) ?_
 rintro _ w3 ⟨rfl,hE3⟩
 simp
 exact hE0.trans (hE1.trans (hE2.trans hE3))
def beN (k : Nat) (n : Int) : List Int := (List.range k).map fun j => n / ((2 ^ (8 * (k - 1 - j)) : Nat) : Int) % 256
theorem beN_len (k : Nat) (n : Int) : (beN k n).length = k := by simp [beN]
theorem beN_take {k : Nat} {n : Int} {j : Nat} (h : j < k) : (beN k n).take (j + 1) = (beN k n).take j ++ [n / ((2 ^ (8 * (k - 1 - j)) : Nat) : Int) % 256] := by
 rw [List.take_add_one]
 congr 1
 simp [beN,h]
theorem put_c {k : Nat} {n : Int} (hk : isWid k) (h0 : 0 ≤ n) (hf : fitsB k n = true) (w : World) : FN Tryz.prog 306 [u64 n, i64 k] w fun e w' => ∃ v, e = .returned (.tuple #[v, i64 0]) ∧ w'.ownsRow w.heap.size 5 1 v k ((beN k n).map u8) ∧ Ext w w' := by
 have hk8 : k ≤ 8 ∧ 0 < k := by unfold isWid at hk; omega
 refine FN_enter Tryz.func306 rfl rfl (by kernel_rfl) ?_
 simp
 refine WC_scope 0 _ rfl ?_
 simp
 have hE0 : Ext w (w.alloc (.cells #[i64 k,u64 n] 366)) := (Ext.refl w).alloc _
 have b0 := Blk.new w [i64 k,u64 n] 366
 generalize (w.alloc (.cells #[i64 k,u64 n] 366)) = w0 at *
 refine FN.mono (isW_c k w0) ?_
 rintro _ w1 ⟨rfl,hE1⟩
 have b1 := b0.ext hE1
 have hd : decide ((k : Int) = 1 ∨ (k : Int) = 2 ∨ (k : Int) = 4 ∨ (k : Int) = 8) = true := decide_eq_true hk
 simp [hd,b1.cell 0 _ rfl,b1.cell 1 _ rfl]
 refine FN.mono (fits_c hk h0 w1) ?_
 rintro _ w2 ⟨rfl,hE2⟩
 have hq : IntKind.i64.wrap ((k : Int) - 1) = k - 1 := wrap64 _ (by omega) (by omega)
 have hX := hE0.trans (hE1.trans hE2)
 simp [hf,hq]
 refine WC_loop (fun m ρ ds w' => ∃ (j : Nat) (u : Value) (iv : Int), m = k - j ∧ j ≤ k ∧ iv = (k : Int) - 1 - j ∧ ρ 0 = u64 n ∧ ρ 4 = u ∧ ρ 7 = i64 iv ∧ ds = [] ∧ Ext w w' ∧ w'.ownsRow w.heap.size 5 1 u j (((beN k n).take j).map u8)) k
  ⟨0,.slice none 0 0,(k : Int) - 1,by simp,by simp,by simp,by simp,by simp,by simp,rfl,hX,by simpa using World.ownsRow_nil _ _ _ _⟩ ?_
 rintro m ρ ds w3 ⟨j,u,iv,rfl,hj,hiv,e0,e4,e7,rfl,hE,ho⟩
 by_cases hlt : j < k
 ·have hge : (0 : Int) ≤ iv := by omega
  have hm : IntKind.i64.wrap (8 * iv) = ((8 * (k - 1 - j) : Nat) : Int) := by rw [wrap64 _ (by omega) (by omega)]; omega
  have hsh := shr_div n (8 * (k - 1 - j)) (by omega)
  have hw8 : ∀ x : Int,IntKind.u8.wrap x = x % 256 := fun x => by simp [IntKind.wrap,IntKind.signed,IntKind.bits]
  have hdq : IntKind.i64.wrap (iv - 1) = iv - 1 := by rw [wrap64 _ (by omega) (by omega)]
  have hnn : 0 ≤ ((8 * (k - 1 - j) : Nat) : Int) := by omega
  have htk := beN_take (n := n) hlt
  generalize ((8 * (k - 1 - j) : Nat) : Int) = sh at hm hsh hnn
  generalize ((2 ^ (8 * (k - 1 - j)) : Nat) : Int) = pw at hsh htk
  obtain ⟨c,hc⟩ : ∃ c,c = n / pw % 256 := ⟨_,rfl⟩
  rw [← hc] at htk
  have hcw : IntKind.u8.wrap (n / pw) = c := by rw [hw8,hc]
  have hE4 : Ext w3 (w3.alloc (.cells #[u8 c] 5)) := (Ext.refl w3).alloc _
  have h1 : Sl (w3.alloc (.cells #[u8 c] 5)) 1 (.slice (some ⟨w3.heap.size,0,none⟩) 1 1) 1 [u8 c] := Sl.made w3 [u8 c] 5 1 1 rfl
  have s0 := hE.size
  have s4 := hE4.size
  obtain ⟨v',w5,hr,ho5,hM5,-⟩ := append_own (P := Tryz.prog) (t := 27) (ty := 27) (e := 5) (s := 1) (by simp) (by simp) (by kernel_rfl) (own_ext ho hE4) h1 (fun u hu => by simp at hu; rw [hu]; rfl) (by omega) (by omega)
  simp [e0,e4,e7,hge,hm,hsh,hcw,hnn,hr,hdq]
  refine ⟨k - (j + 1), by omega, j + 1, rfl, by omega, by omega, ?_, ?_⟩
  ·exact (((hE.trans hE4).mod (S := fun k => w.heap.size ≤ k)).trans (hM5.weaken fun k hk => by have := own_ge ho hk.1; omega)).ext fun _ h => h
  ·rw [← List.map_take,htk,List.map_append]
   exact ho5
 ·obtain rfl : j = k := by omega
  have hge : ¬ (0 : Int) ≤ iv := by omega
  simp [e4,e7,hge]
  rw [List.take_of_length_le (by rw [beN_len]; omega)] at ho
  exact ⟨ho,hE⟩
end Go.Proofs