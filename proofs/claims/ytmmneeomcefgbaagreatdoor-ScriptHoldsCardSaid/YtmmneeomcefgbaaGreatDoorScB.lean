/-
 Contracts of the functions that the law reaches,step by step.
-/
import Derived.Test.YtmmneeomcefgbaaGreatDoorAmO
import Derived.Test.YtmmneeomcefgbaaGreatDoorScS
import Derived.Test.YtmmneeomcefgbaaGreatDoorAuA
import Derived.Lib.ItoaMem
namespace Go.Proofs
open Pk
set_option maxRecDepth 10000
attribute [local simp] beq_dec bne_dec
structure Gl (w : World) : Prop where
 p10 : Lib.TabIs Tryz.prog w "internal/strconv.uint64pow10" .u64 Lib.pow10Tab
 syn : ∃ tp p, w.var? Tryz.prog "strconv.ErrSyntax" = some #[.iface tp p]
 rng : ∃ tp p, w.var? Tryz.prog "strconv.ErrRange" = some #[.iface tp p]
 tabs : Tabs w
theorem Tabs.mod {w w' : World} {S : Nat → Prop} (h : Tabs w) (hM : Mod S w w') (hS : ∀ k, S k → 8 ≤ k) : Tabs w' :=
 ⟨fun c hc => hM.cell (h.1 c hc) (fun e => by have h9 := hS _ e; simp at h9),fun i hi => ⟨hM.cell (h.2 i hi).1 (fun e => by have h9 := hS _ e; simp at h9),hM.cell (h.2 i hi).2 (fun e => by have h9 := hS _ e; simp at h9)⟩⟩
theorem gvar_keep {w w' : World} {n : String} {cs : Array Value} (h : w.var? Tryz.prog n = some cs) (hk : ∀ g, Tryz.prog.globalNamed n = some g → g < w.heap.size → w'.heap[g]? = w.heap[g]?) : w'.var? Tryz.prog n = some cs := by
 unfold World.var? at h ⊢
 cases hg : Tryz.prog.globalNamed n with
 | none => rw [hg] at h; simp at h
 | some g =>
  rw [hg] at h
  have hlt : g < w.heap.size := by
   rcases Nat.lt_or_ge g w.heap.size with h' | h'
   ·exact h'
   ·simp [Array.getElem?_eq_none h'] at h
  simp only [Option.bind_some] at h ⊢
  rw [hk g hg hlt]; exact h
theorem Gl.ext {w w' : World} (h : Gl w) (hE : Ext w w') : Gl w' := by
 obtain ⟨h1,⟨tp,p,h2⟩,⟨tq,q,h3⟩,h4⟩ := h
 exact ⟨gvar_keep h1 fun g _ hl => hE.blk g hl,⟨tp,p,gvar_keep h2 fun g _ hl => hE.blk g hl⟩,⟨tq,q,gvar_keep h3 fun g _ hl => hE.blk g hl⟩,h4.ext hE⟩
theorem gl_small {n : String} {g : Nat} (hn : n = "internal/strconv.uint64pow10" ∨ n = "strconv.ErrSyntax" ∨ n = "strconv.ErrRange") (h : Tryz.prog.globalNamed n = some g) : g < 8 := by
 rcases hn with rfl | rfl | rfl
 ·have : Tryz.prog.globalNamed "internal/strconv.uint64pow10" = some 3 := by kernel_rfl
  rw [this] at h; cases h; omega
 ·have : Tryz.prog.globalNamed "strconv.ErrSyntax" = some 4 := by kernel_rfl
  rw [this] at h; cases h; omega
 ·have : Tryz.prog.globalNamed "strconv.ErrRange" = some 5 := by kernel_rfl
  rw [this] at h; cases h; omega
theorem Gl.mod {w w' : World} {S : Nat → Prop} (h : Gl w) (hM : Mod S w w') (hS : ∀ k, S k → 8 ≤ k) : Gl w' := by
 obtain ⟨h1,⟨tp,p,h2⟩,⟨tq,q,h3⟩,h4⟩ := h
 exact ⟨gvar_keep h1 fun g hg hl => hM.blk g hl fun hs => by have := gl_small (.inl rfl) hg; have := hS g hs; omega,
  ⟨tp,p,gvar_keep h2 fun g hg hl => hM.blk g hl fun hs => by have := gl_small (.inr (.inl rfl)) hg; have := hS g hs; omega⟩,
  ⟨tq,q,gvar_keep h3 fun g hg hl => hM.blk g hl fun hs => by have := gl_small (.inr (.inr rfl)) hg; have := hS g hs; omega⟩,h4.mod hM hS⟩
abbrev encB : UInt8 → Value := fun b => Value.int .u8 (b.toNat : Int)
theorem holds_zero0 (w : World) (T : TypeId) (nd : Nat) (hs : nd ≤ 24) : Go.Sort.Holds encB (w.alloc (.cells Lib.zeros24 T)) w.heap.size 0 (Array.replicate nd (0 : UInt8)) := fun j hj => by
 have hj' : j < nd := by simpa using hj
 refine ⟨?_,World.frozen?_alloc_new _ _ _ _⟩
 rw [World.cell?_alloc_new,Lib.zeros24_at _ (by omega),getElem!_pos _ j hj]
 simp
theorem mod_putRow (w : World) (b off : Nat) (dk : Array UInt8) (k : Nat) : Mod (fun i => i = b) w ((Go.Sort.putRow encB w b off dk).drewN k) := by
 refine ⟨?_,?_,?_,?_,fun i hi hne => ?_⟩
 all_goals simp [Go.Sort.putRow,Go.Sort.mapBlock,World.drewN]
 rw [Array.getElem?_modify,if_neg (fun e => hne e.symm)]
set_option maxHeartbeats 4000000 in
theorem ifmt_c (u : Nat) (hu : u < 18446744073709551616) {w : World} (hG : Gl w) : FN Tryz.prog 300 [u64 u, i64 10] w fun e w' => e = .returned (tv (Lib.decDigits u)) ∧ Ext w w' := by
 refine FN_enter Tryz.func300 rfl rfl (by kernel_rfl) ?_
 by_cases h1 : u < 100
 ·have h1' : (u : Int) < 100 := by omega
  have hw : IntKind.i64.wrap (u : Int) = u := wrap64 _ (by omega) (by omega)
  simp [h1',hw]
  refine FN.mono (FN_of_calls Tryz.func314 rfl rfl (Tryz.internal_strconv_small u h1 w)) ?_
  rintro _ w2 ⟨rfl,rfl⟩
  simp
  exact Ext.refl _
 ·have h1' : ¬ (u : Int) < 100 := by omega
  have hz : ∀ W : World,(zeroValue 352).run Tryz.prog W = .ok (.agg Lib.zeros24) W := fun W => by kernel_rfl
  have hn20 : Lib.nDigits u ≤ 20 := by have := Lib.numDigits_eq u (by omega) hu; split at this <;> omega
  have hsl : ∀ (b : Nat) W, (Instr.sliceAt 352 (.pointer (some ⟨b, 0, none⟩)) none (some (i64 (Lib.nDigits u))) none).run Tryz.prog W = .ok (.slice (some ⟨b, 0, none⟩) (Lib.nDigits u) 24) W := fun b W => by
   have hal : Tryz.prog.arrayLen 352 = 24 := by simp [Program.arrayLen]
   rw [run_sliceAt_array_h W 352 ⟨b,0,none⟩ (by simp [Program.arrayLen,Program.elem]) .i64 (Lib.nDigits u : Int) (by omega) (by rw [hal]; omega)]
   simp [slicedAt,Program.elem,Program.arrayLen]
  simp [h1']
  have hE1 : Ext w (w.alloc (.cells Lib.zeros24 352)) := (Ext.refl w).alloc _
  refine FN.mono (FN_of_calls Tryz.func315 rfl rfl (Tryz.internal_strconv_numDigits u (by omega) hu _ (hG.ext hE1).p10)) ?_
  rintro _ w2 ⟨rfl,rfl⟩
  simp [hsl]
  have hH0 := holds_zero0 w 352 (Lib.nDigits u) (by omega)
  have hfmt := Tryz.internal_strconv_formatBase10 w.heap.size 0 24 u (Array.replicate (Lib.nDigits u) 0) (w.alloc (.cells Lib.zeros24 352)) hH0 (by rw [Array.size_replicate]; exact Lib.lt_pow_nDigits u) hu (by rw [Array.size_replicate]; omega)
  rw [Array.size_replicate] at hfmt
  refine FN.mono (FN_of_calls Tryz.func316 rfl rfl hfmt) ?_
  rintro _ w3 ⟨rfl,k,v',dk,rfl,hF⟩
  have hcv : (convert 27 9 (.slice (some ⟨w.heap.size, 0, none⟩) (Lib.nDigits u) 24)).run Tryz.prog ((Go.Sort.putRow encB (w.alloc (.cells Lib.zeros24 352)) w.heap.size 0 dk).drewN k) = .ok (tv (Lib.decDigits u)) ((Go.Sort.putRow encB (w.alloc (.cells Lib.zeros24 352)) w.heap.size 0 dk).drewN k) := by
   have h := run_convert_bytes_back (P := Tryz.prog) ((Go.Sort.putRow encB (w.alloc (.cells Lib.zeros24 352)) w.heap.size 0 dk).drewN k) 27 9 5 ⟨w.heap.size, 0, none⟩ 24 (Lib.decDigits u) (by simp) (by simp) (by simp) fun j hj => by
    rw [Lib.row_is_numeral hF j hj,Lib.add_plain,World.cell?_drewN]
    exact Go.Sort.cell?_putRow encB _ w.heap.size 0 _ dk hH0 (by rw [hF.size,Array.size_replicate]) j (by rw [hF.size]; rw [Lib.decDigits_length] at hj; exact hj)
   rw [Lib.decDigits_length] at h
   exact h
  simp [hsl,hcv]
  exact ((hE1.mod (S := fun i => w.heap.size ≤ i)).trans ((mod_putRow _ w.heap.size 0 dk k).weaken fun i hi => by omega)).ext fun _ h => h
theorem fmtu_c (u : Nat) (hu : u < 18446744073709551616) {w : World} (hG : Gl w) : FN Tryz.prog 271 [u64 u, i64 10] w fun e w' => e = .returned (tv (Lib.decDigits u)) ∧ Ext w w' := by
 refine FN_enter Tryz.func271 rfl rfl (by kernel_rfl) ?_
 simp
 refine FN.mono (ifmt_c u hu hG) ?_
 rintro _ w1 ⟨rfl,hE⟩
 simp
 exact hE
theorem n32_c (u : Nat) (hu : u ≤ 4294967295) {w : World} (hG : Gl w) : FN Tryz.prog 239 [u32 u] w fun e w' => e = .returned (tv (Lib.decDigits u)) ∧ Ext w w' := by
 refine FN_enter Tryz.func239 rfl rfl (by kernel_rfl) ?_
 have hw : IntKind.u64.wrap (u : Int) = u := wrap64u _ (by omega) (by omega)
 simp [hw]
 refine FN.mono (fmtu_c u (by omega) hG) ?_
 rintro _ w1 ⟨rfl,hE⟩
 simp
 exact hE
theorem n64_c (u : Nat) (hu : u < 18446744073709551616) {w : World} (hG : Gl w) : FN Tryz.prog 274 [u64 u] w fun e w' => e = .returned (tv (Lib.decDigits u)) ∧ Ext w w' := by
 refine FN_enter Tryz.func274 rfl rfl (by kernel_rfl) ?_
 simp
 refine FN.mono (fmtu_c u hu hG) ?_
 rintro _ w1 ⟨rfl,hE⟩
 simp
 exact hE
theorem tadd (W : World) (t : TypeId) (a b : Tx) (h : (a.length : Int) + b.length ≤ 9223372036854775807) : (binOp .add t (tv a) (tv b)).run Tryz.prog W = .ok (tv (a ++ b)) W := by
 have e : (⟨a.toArray⟩ : ByteArray) ++ ⟨b.toArray⟩ = ⟨(a ++ b).toArray⟩ := by
  apply ByteArray.ext
  simp
 have h' : ((⟨a.toArray⟩ : ByteArray).size : Int) + (⟨b.toArray⟩ : ByteArray).size ≤ 9223372036854775807 := by rw [tsz,tsz]; exact h
 have h2 := h
 simp [binOp,Op.stringOp,e]
 exact h
theorem nd10 (n : Nat) (h : n ≤ 4294967295) : Lib.nDigits n ≤ 20 := by
 by_cases h1 : 1 ≤ n
 ·have := Lib.numDigits_eq n h1 (by omega); split at this <;> omega
 ·rw [show n = 0 by omega,Lib.nDigits_small (by omega)]; omega
abbrev eptV (n s : Nat) : Value := .agg #[u32 n,u32 s]
def toldP (n s : Nat) : Tx := if n = 0 then [100,116,110,58,110,111,110,101] else [105,112,110,58] ++ Lib.decDigits n ++ [46] ++ Lib.decDigits s
theorem ntold_c (n s : Nat) (hn : n ≤ 4294967295) (hs : s ≤ 4294967295) {w : World} (hG : Gl w) : FN Tryz.prog 184 [eptV n s] w fun e w' => e = .returned (tv (toldP n s)) ∧ Ext w w' := by
 refine FN_enter Tryz.func184 rfl rfl (by kernel_rfl) ?_
 have hE1 : Ext w (w.alloc (.cells #[u32 n,u32 s] 26)) := (Ext.refl w).alloc _
 have o1 : Blk (w.alloc (.cells #[u32 n,u32 s] 26)) w.heap.size [u32 n,u32 s] := Blk.new w _ _
 simp
 generalize (w.alloc (.cells #[u32 n,u32 s] 26)) = w1 at *
 by_cases h0 : n = 0
 ·subst h0
  simp [toldP]
  exact hE1
 ·have h0' : ¬ (n : Int) = 0 := by omega
  simp [h0]
  have dl := Lib.decDigits_length n
  have ds := Lib.decDigits_length s
  have k1 := nd10 n hn
  have k2 := nd10 s hs
  refine WC_drawC 8 (.F 0 <| .F 1 <| .F 5 <| .F 6 <| .C 2 <| .F 3 <| .F 4 <| .C 7 <| .Z) (fun _ => false) rfl (by kernel_rfl) fun W hW => ?_
  have hWE : Ext w1 W := hW ▸ Ext.drew _
  have o2 := o1.ext hWE
  simp [o2.cell 0 _ rfl,o2.cell 1 _ rfl]
  refine FN.mono (n32_c n hn (hG.ext (hE1.trans hWE))) ?_
  rintro _ w2 ⟨rfl,hE2⟩
  have a1 := fun W' => tadd W' 9 [105,112,110,58] (Lib.decDigits n) (by simp; omega)
  have a2 := fun W' => tadd W' 9 (105 :: 112 :: 110 :: 58 :: Lib.decDigits n) [46] (by simp; omega)
  simp at a1 a2
  simp
  refine KR_ext hE2 ?_
  simp [a1,a2]
  refine FN.mono (n32_c s hs (hG.ext (hE1.trans (hWE.trans hE2)))) ?_
  rintro _ w3 ⟨rfl,hE3⟩
  have a3 := fun W' => tadd W' 9 (105 :: 112 :: 110 :: 58 :: (Lib.decDigits n ++ [46])) (Lib.decDigits s) (by simp; omega)
  simp at a3
  simp
  refine KR_ext hE3 ?_
  simp [a3]
  exact ⟨by simp [toldP,h0],hE1.trans (hWE.trans (hE2.trans hE3))⟩
theorem ncheck_c (n s : Nat) (w : World) : FN Tryz.prog 183 [eptV n s] w fun e w' => e = .returned (i64 (if n = 0 ∧ s ≠ 0 then 2 else 0)) ∧ Ext w w' := by
 refine FN_enter Tryz.func183 rfl rfl (by kernel_rfl) ?_
 have hE1 : Ext w (w.alloc (.cells #[u32 n,u32 s] 26)) := (Ext.refl w).alloc _
 have o1 : Blk (w.alloc (.cells #[u32 n,u32 s] 26)) w.heap.size [u32 n,u32 s] := Blk.new w _ _
 simp
 generalize (w.alloc (.cells #[u32 n,u32 s] 26)) = w1 at *
 by_cases h0 : n = 0
 ·by_cases h1 : s = 0
  ·simp [h0,h1,o1.cell 1 _ rfl]
   exact hE1
  ·simp [h0,h1,o1.cell 1 _ rfl]
   exact hE1
 ·simp [h0]
  exact hE1
theorem ntext_c (n s : Nat) (hn : n ≤ 4294967295) (hs : s ≤ 4294967295) {w : World} (hG : Gl w) : FN Tryz.prog 145 [eptV n s] w fun e w' => e = .returned (.tuple #[tv (if n = 0 ∧ s ≠ 0 then [] else toldP n s), i64 (if n = 0 ∧ s ≠ 0 then 2 else 0)]) ∧ Ext w w' := by
 refine FN_enter Tryz.func145 rfl rfl (by kernel_rfl) ?_
 have hE1 : Ext w (w.alloc (.cells #[u32 n,u32 s] 26)) := (Ext.refl w).alloc _
 have o1 : Blk (w.alloc (.cells #[u32 n,u32 s] 26)) w.heap.size [u32 n,u32 s] := Blk.new w _ _
 simp
 generalize (w.alloc (.cells #[u32 n,u32 s] 26)) = w1 at *
 refine WC_drawC 6 (.F 0 <| .F 1 <| .C 2 <| .C 3 <| .F 4 <| .F 5 <| .Z) (fun _ => false) rfl (by kernel_rfl) fun W hW => ?_
 have hWE : Ext w1 W := hW ▸ Ext.drew _
 have o2 := o1.ext hWE
 simp [o2.cell 0 _ rfl,o2.cell 1 _ rfl]
 refine FN.mono (ncheck_c n s W) ?_
 rintro _ w2 ⟨rfl,hE2⟩
 simp
 refine KR_ext hE2 ?_
 simp
 have hmade : FN Tryz.prog 182 [eptV n s, i64 (if n = 0 ∧ s ≠ 0 then 2 else 0), .func (.func 184) #[] #[]] w2 fun e w' => e = .returned (.tuple #[tv (if n = 0 ∧ s ≠ 0 then [] else toldP n s), i64 (if n = 0 ∧ s ≠ 0 then 2 else 0)]) ∧ Ext w2 w' := by
  refine FN_enter Tryz.func182 rfl rfl (by kernel_rfl) ?_
  have hE3 : Ext w2 (w2.alloc (.cells #[u32 n,u32 s] 26)) := (Ext.refl _).alloc _
  have o3 : Blk (w2.alloc (.cells #[u32 n,u32 s] 26)) w2.heap.size [u32 n,u32 s] := Blk.new w2 _ _
  simp
  generalize (w2.alloc (.cells #[u32 n,u32 s] 26)) = w3 at *
  by_cases hb : n = 0 ∧ s ≠ 0
  ·simp [hb]
   exact hE3
  ·have hb' : ¬ (n = 0 ∧ ¬ s = 0) := hb
   have hbb : (decide (n = 0) && !decide (s = 0)) = false := by rw [Bool.eq_false_iff]; simpa using hb
   simp [hbb,hb',o3.cell 0 _ rfl,o3.cell 1 _ rfl]
   refine FN.mono (ntold_c n s hn hs (hG.ext (hE1.trans (hWE.trans (hE2.trans hE3))))) ?_
   rintro _ w4 ⟨rfl,hE4⟩
   simp
   exact ⟨⟨fun h h1 => absurd ⟨h,h1⟩ hb,fun h => Decidable.byContradiction fun h1 => hb ⟨h,h1⟩⟩,hE3.trans hE4⟩
 refine FN.mono (hmade) ?_
 rintro _ w3 ⟨rfl,hE3⟩
 simp
 refine KR_ext hE3 ?_
 simp
 exact hE1.trans (hWE.trans (hE2.trans hE3))
def pointP (n s : Nat) : Option Tx := if n = 0 ∧ s ≠ 0 then none else some (toldP n s)
theorem spoint_c (n s : Nat) (hn : n ≤ 4294967295) (hs : s ≤ 4294967295) {w : World} (hG : Gl w) : FN Tryz.prog 115 [eptV n s] w fun e w' => Ext w w' ∧ match pointP n s with | none => e = .panicked panS | some t => e = .returned (tv t) := by
 refine FN_enter Tryz.func115 rfl rfl (by kernel_rfl) ?_
 have hE1 : Ext w (w.alloc (.cells #[u32 n,u32 s] 26)) := (Ext.refl w).alloc _
 have o1 : Blk (w.alloc (.cells #[u32 n,u32 s] 26)) w.heap.size [u32 n,u32 s] := Blk.new w _ _
 simp
 generalize (w.alloc (.cells #[u32 n,u32 s] 26)) = w1 at *
 skip
 refine FN.mono (ntext_c n s hn hs (hG.ext hE1)) ?_
 rintro _ w2 ⟨rfl,hE2⟩
 by_cases hb : n = 0 ∧ ¬ s = 0
 ·have hbb : (decide (n = 0) && !decide (s = 0)) = true := by simpa using hb
  simp [hb]
  refine FN.mono (smust_f w2) ?_
  rintro _ w3 ⟨rfl,rfl⟩
  simp [pointP,hb]
  exact hE1.trans hE2
 ·have hbb : (decide (n = 0) && !decide (s = 0)) = false := by rw [Bool.eq_false_iff]; simpa using hb
  simp [hb]
  refine FN.mono (smust_t w2) ?_
  rintro _ w3 ⟨⟨u,rfl⟩,rfl⟩
  simp [pointP,hb]
  exact hE1.trans hE2
end Go.Proofs