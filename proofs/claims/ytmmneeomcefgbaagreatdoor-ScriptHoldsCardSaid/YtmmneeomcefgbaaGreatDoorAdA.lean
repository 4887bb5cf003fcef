/-
 Contracts of the functions that the law reaches,step by step.
-/
import Derived.Test.YtmmneeomcefgbaaGreatDoorAmA
namespace Go.Proofs
open Pk
set_option maxRecDepth 10000
inductive It where
 | mk (k n : Int) (b : List Int) (s : ByteArray) (l : List It)
noncomputable instance : DecidableEq It := fun _ _ => Classical.propDecidable _
mutual
def ItP (Pd : Nat → Prop) (W : World) : It → List Value → Prop
 | .mk k n b s l,cs => ∃ bv lv css,cs = [i64 k,u64 n,bv,.string s,lv] ∧ SlB W 1 bv b.length (b.map u8) ∧ SlB W 5 lv l.length css.flatten ∧ (b ≠ [] → Pd (slB bv)) ∧ (l ≠ [] → Pd (slB lv)) ∧ ItPs Pd W l css ∧ b.length ≤ 9223372036854775807 ∧ l.length ≤ 9223372036854775807
def ItPs (Pd : Nat → Prop) (W : World) : List It → List (List Value) → Prop
 | [],css => css = []
 | x :: l,css => ∃ c r,css = c :: r ∧ ItP Pd W x c ∧ ItPs Pd W l r
end
abbrev ItC (W : World) (t : It) (cs : List Value) : Prop := ItP (fun _ => True) W t cs
abbrev ItCs (W : World) (l : List It) (css : List (List Value)) : Prop := ItPs (fun _ => True) W l css
theorem itP_mk {Pd : Nat → Prop} {W : World} {k n : Int} {b : List Int} {s : ByteArray} {l : List It} {cs : List Value} : ItP Pd W (.mk k n b s l) cs ↔ ∃ bv lv css, cs = [i64 k, u64 n, bv, .string s, lv] ∧ SlB W 1 bv b.length (b.map u8) ∧ SlB W 5 lv l.length css.flatten ∧ (b ≠ [] → Pd (slB bv)) ∧ (l ≠ [] → Pd (slB lv)) ∧ ItPs Pd W l css ∧ b.length ≤ 9223372036854775807 ∧ l.length ≤ 9223372036854775807 := by
 rw [ItP]
theorem itC_mk {W : World} {k n : Int} {b : List Int} {s : ByteArray} {l : List It} {cs : List Value} : ItC W (.mk k n b s l) cs ↔ ∃ bv lv css, cs = [i64 k, u64 n, bv, .string s, lv] ∧ SlB W 1 bv b.length (b.map u8) ∧ SlB W 5 lv l.length css.flatten ∧ ItCs W l css ∧ b.length ≤ 9223372036854775807 ∧ l.length ≤ 9223372036854775807 := by
 rw [ItC,itP_mk]
 constructor
 ·rintro ⟨bv,lv,css,h1,h2,h3,-,-,h4⟩; exact ⟨bv,lv,css,h1,h2,h3,h4⟩
 ·rintro ⟨bv,lv,css,h1,h2,h3,h4⟩; exact ⟨bv,lv,css,h1,h2,h3,fun _ => trivial,fun _ => trivial,h4⟩
theorem itPs_iff {Pd : Nat → Prop} {W : World} : ∀ {l : List It} {css : List (List Value)}, ItPs Pd W l css ↔ css.length = l.length ∧ ∀ (i : Nat) (x : It) (c : List Value), l[i]? = some x → css[i]? = some c → ItP Pd W x c
 | [], css => by
  rw [ItPs]
  constructor
  ·rintro rfl; exact ⟨rfl,fun i x c h => by simp at h⟩
  ·rintro ⟨h,-⟩; exact List.eq_nil_of_length_eq_zero h
 | x :: l, css => by
  rw [ItPs]
  constructor
  ·rintro ⟨c,r,rfl,h1,h2⟩
   obtain ⟨h3,h4⟩ := itPs_iff.1 h2
   refine ⟨by simp [h3],fun i y d hy hd => ?_⟩
   cases i with
   | zero => simp at hy hd; subst hy; subst hd; exact h1
   | succ i => simp at hy hd; exact h4 i y d hy hd
  ·rintro ⟨h1,h2⟩
   cases css with
   | nil => simp at h1
   | cons c r =>
    refine ⟨c,r,rfl,h2 0 x c rfl rfl,itPs_iff.2 ⟨by simpa using h1,fun i y d hy hd => h2 (i + 1) y d (by simpa using hy) (by simpa using hd)⟩⟩
theorem itCs_iff {W : World} {l : List It} {css : List (List Value)} : ItCs W l css ↔ css.length = l.length ∧ ∀ (i : Nat) (x : It) (c : List Value),l[i]? = some x → css[i]? = some c → ItC W x c := itPs_iff
theorem It.lt {l : List It} {x : It} (h : x ∈ l) (k n : Int) (b : List Int) (s : ByteArray) : SizeOf.sizeOf x < SizeOf.sizeOf (It.mk k n b s l) := by
 have := List.sizeOf_lt_of_mem h
 simp
 omega
theorem itC_len {W : World} : ∀ {t : It} {cs : List Value}, ItC W t cs → cs.length = 5
 | .mk _ _ _ _ _,_,h => by obtain ⟨bv,lv,css,rfl,-⟩ := itC_mk.1 h; rfl
theorem sl_keep {W W' : World} {S : Nat → Prop} {s n : Nat} {v : Value} {xs : List Value} (h : Sl W s v n xs) (hM : Mod S W W') (hS : xs ≠ [] → ¬ S (slB v)) : Sl W' s v n xs := by
 by_cases hx : xs = []
 ·subst hx
  exact ⟨h.len,h.val,fun _ _ h => by simp at h⟩
 ·exact h.mod hM (hS hx)
theorem itP_go {Pd Pd' S : Nat → Prop} {W W' : World} (hM : Mod S W W') (hP : ∀ k, k < W.heap.size → Pd k → Pd' k ∧ ¬ S k) : ∀ (m : Nat) (t : It) (cs : List Value), SizeOf.sizeOf t ≤ m → ItP Pd W t cs → ItP Pd' W' t cs := by
 intro m
 induction m with
 | zero => intro t cs h; cases t; simp at h
 | succ m ih =>
  intro t cs h hc
  obtain ⟨k,n,b,s,l⟩ := t
  obtain ⟨bv,lv,css,rfl,h1,h2,p1,p2,h3,h4⟩ := itP_mk.1 hc
  obtain ⟨h5,h6⟩ := itPs_iff.1 h3
  have l1 : b ≠ [] → slB bv < W.heap.size := fun hb => h1.lt (by simpa using List.length_pos_iff.2 hb)
  have l2 : l ≠ [] → slB lv < W.heap.size := fun hb => h2.lt (by have := List.length_pos_iff.2 hb; have := h2.len; omega)
  refine itP_mk.2 ⟨bv, lv, css, rfl, h1.mod hM fun hx => (hP _ (l1 (by simpa using hx)) (p1 (by simpa using hx))).2, h2.mod hM fun hx => ?_, fun hb => (hP _ (l1 hb) (p1 hb)).1, fun hb => (hP _ (l2 hb) (p2 hb)).1, itPs_iff.2 ⟨h5, fun i x c hx hcc => ih x c ?_ (h6 i x c hx hcc)⟩, h4⟩
  ·have hl : l ≠ [] := fun e => hx (by subst e; have := h2.len; exact List.eq_nil_of_length_eq_zero (by simpa using this))
   exact (hP _ (l2 hl) (p2 hl)).2
  ·have := It.lt (List.mem_of_getElem? hx) k n b s
   omega
theorem ItP.go {Pd Pd' S : Nat → Prop} {W W' : World} {t : It} {cs : List Value} (h : ItP Pd W t cs) (hM : Mod S W W') (hP : ∀ k,k < W.heap.size → Pd k → Pd' k ∧ ¬ S k) : ItP Pd' W' t cs := itP_go hM hP _ t cs (Nat.le_refl _) h
theorem ItP.ext {Pd : Nat → Prop} {W W' : World} {t : It} {cs : List Value} (h : ItP Pd W t cs) (hE : Ext W W') : ItP Pd W' t cs := h.go (hE.mod (S := fun _ => False)) fun _ _ h => ⟨h,id⟩
theorem ItC.ext {W W' : World} {t : It} {cs : List Value} (h : ItC W t cs) (hE : Ext W W') : ItC W' t cs := ItP.ext h hE
theorem ItP.any {Pd : Nat → Prop} {W : World} {t : It} {cs : List Value} (h : ItP Pd W t cs) : ItC W t cs := h.go (Mod.refl (fun _ => False) W) fun _ _ _ => ⟨trivial,id⟩
theorem ItPs.go {Pd Pd' S : Nat → Prop} {W W' : World} {l : List It} {css : List (List Value)} (h : ItPs Pd W l css) (hM : Mod S W W') (hP : ∀ k, k < W.heap.size → Pd k → Pd' k ∧ ¬ S k) : ItPs Pd' W' l css := by
 obtain ⟨h1,h2⟩ := itPs_iff.1 h
 exact itPs_iff.2 ⟨h1,fun i x c hx hc => (h2 i x c hx hc).go hM hP⟩
theorem ItPs.ext {Pd : Nat → Prop} {W W' : World} {l : List It} {css : List (List Value)} (h : ItPs Pd W l css) (hE : Ext W W') : ItPs Pd W' l css := h.go (hE.mod (S := fun _ => False)) fun _ _ h => ⟨h,id⟩
theorem ItCs.ext {W W' : World} {l : List It} {css : List (List Value)} (h : ItCs W l css) (hE : Ext W W') : ItCs W' l css := ItPs.ext h hE
theorem ItPs.snoc {Pd : Nat → Prop} {W : World} {l : List It} {css : List (List Value)} (h : ItPs Pd W l css) {x : It} {c : List Value} (hx : ItP Pd W x c) : ItPs Pd W (l ++ [x]) (css ++ [c]) := by
 obtain ⟨h1,h2⟩ := itPs_iff.1 h
 refine itPs_iff.2 ⟨by simp [h1],fun i y d hy hd => ?_⟩
 by_cases hi : i < l.length
 ·rw [List.getElem?_append_left hi] at hy
  rw [List.getElem?_append_left (by omega)] at hd
  exact h2 i y d hy hd
 ·rw [List.getElem?_append_right (by omega)] at hy
  rw [List.getElem?_append_right (by omega),h1] at hd
  cases hj : i - l.length with
  | zero => rw [hj] at hy hd; simp at hy hd; subst hy; subst hd; exact hx
  | succ j => rw [hj] at hy; simp at hy
theorem ItPs.cons {Pd : Nat → Prop} {W : World} {l : List It} {css : List (List Value)} (h : ItPs Pd W l css) {x : It} {c : List Value} (hx : ItP Pd W x c) : ItPs Pd W (x :: l) (c :: css) := by
 rw [ItPs]; exact ⟨c,css,rfl,hx,h⟩
theorem itPs_nil {Pd : Nat → Prop} {W : World} : ItPs Pd W [] [] := by rw [ItPs]
theorem itCs_five {W : World} {l : List It} {css : List (List Value)} (h : ItCs W l css) : ∀ c ∈ css, c.length = 5 := by
 intro c hc
 obtain ⟨h1,h2⟩ := itCs_iff.1 h
 obtain ⟨i,hi,rfl⟩ := List.getElem_of_mem hc
 exact itC_len (h2 i l[i] _ (List.getElem?_eq_getElem (by omega)) (List.getElem?_eq_getElem hi))
theorem flat5 : ∀ {css : List (List Value)} (_ : ∀ c ∈ css, c.length = 5) (i j : Nat) (c : List Value), css[i]? = some c → j < 5 → css.flatten[i * 5 + j]? = c[j]?
 | [],_,i,_,_,hc,_ => by simp at hc
 | d :: css, h, i, j, c, hc, hj => by
  have hd := h d (by simp)
  cases i with
  | zero =>
   simp at hc; subst hc
   rw [List.flatten_cons,List.getElem?_append_left (by omega)]; simp
  | succ i =>
   rw [List.flatten_cons,List.getElem?_append_right (by omega)]
   have := flat5 (css := css) (fun c hc => h c (by simp [hc])) i j c (by simpa using hc) hj
   rw [← this]; congr 1; omega
structure ItAt (W : World) (v : Value) (i : Nat) (k n : Int) (bv : Value) (s : ByteArray) (lv : Value) : Prop where
 c0 : W.cell? ⟨slB v,slO v + i * 5,none⟩ = some (i64 k)
 c1 : W.cell? ⟨slB v,slO v + i * 5 + 1,none⟩ = some (u64 n)
 c2 : W.cell? ⟨slB v,slO v + i * 5 + 2,none⟩ = some bv
 c3 : W.cell? ⟨slB v,slO v + i * 5 + 3,none⟩ = some (.string s)
 c4 : W.cell? ⟨slB v,slO v + i * 5 + 4,none⟩ = some lv
theorem ItAt.ext {W W' : World} {v : Value} {i : Nat} {k n : Int} {bv : Value} {s : ByteArray} {lv : Value} (h : ItAt W v i k n bv s lv) (hE : Ext W W') : ItAt W' v i k n bv s lv :=
 ⟨hE.cell_eq h.c0,hE.cell_eq h.c1,hE.cell_eq h.c2,hE.cell_eq h.c3,hE.cell_eq h.c4⟩
theorem itRow {W : World} {v : Value} {l : List It} {css : List (List Value)} (h : SlB W 5 v l.length css.flatten) (hc : ItCs W l css) {i : Nat} (hi : i < l.length) :
  ∃ k n bv s lv,css[i]? = some [i64 k,u64 n,bv,.string s,lv] ∧ ItC W l[i] [i64 k,u64 n,bv,.string s,lv] ∧ ItAt W v i k n bv s lv := by
 obtain ⟨h1,h2⟩ := itCs_iff.1 hc
 have hci := List.getElem?_eq_getElem (l := css) (i := i) (by omega)
 have hx := h2 i l[i] _ (List.getElem?_eq_getElem hi) hci
 obtain ⟨k, n, b, s, l', hl⟩ : ∃ k n b s l', l[i] = It.mk k n b s l' := by
  cases l[i] with
  | mk k n b s l' => exact ⟨k,n,b,s,l',rfl⟩
 rw [hl] at hx
 obtain ⟨bv,lv,css',hcs,-⟩ := itC_mk.1 hx
 rw [hcs] at hci hx
 have d := fun (j : Nat) (u : Value) (hj : j < 5) (e : ([i64 k,u64 n,bv,.string s,lv] : List Value)[j]? = some u) => h.at_ (i * 5 + j) u ((flat5 (itCs_five hc) i j _ hci hj).trans e)
 simp only [← Nat.add_assoc] at d
 exact ⟨k,n,bv,s,lv,hci,by rw [hl]; exact hx,d 0 _ (by omega) rfl,d 1 _ (by omega) rfl,d 2 _ (by omega) rfl,d 3 _ (by omega) rfl,d 4 _ (by omega) rfl⟩
theorem itC_slices {W : World} {t : It} {k n : Int} {bv : Value} {s : ByteArray} {lv : Value} (h : ItC W t [i64 k, u64 n, bv, .string s, lv]) : (∃ a m c, bv = .slice a m c) ∧ ∃ a m c, lv = .slice a m c := by
 obtain ⟨k',n',b',s',l'⟩ := t
 obtain ⟨bv',lv',css,hcs,h1,h2,-⟩ := itC_mk.1 h
 simp at hcs
 obtain ⟨-,-,rfl,-,rfl⟩ := hcs
 obtain ⟨a,c,ha⟩ := h1.isSlice
 obtain ⟨a',c',ha'⟩ := h2.isSlice
 exact ⟨⟨a,_,c,ha⟩,⟨a',_,c',ha'⟩⟩
structure ItBx (W : World) (b : Nat) (k n : Int) (bv : Value) (s : ByteArray) (lv : Value) : Prop where
 c0 : W.cell? ⟨b,0,none⟩ = some (i64 k)
 c1 : W.cell? ⟨b,1,none⟩ = some (u64 n)
 c2 : W.cell? ⟨b,2,none⟩ = some bv
 c3 : W.cell? ⟨b,3,none⟩ = some (.string s)
 c4 : W.cell? ⟨b,4,none⟩ = some lv
 fz : ∀ j,W.frozen? ⟨b,j,none⟩ = false
theorem ItBx.new (W : World) (k n : Int) (bv : Value) (s : ByteArray) (lv : Value) (ty : TypeId) : ItBx (W.alloc (.cells #[i64 k, u64 n, bv, .string s, lv] ty)) W.heap.size k n bv s lv := by
 have ho := World.alloc_heap_new W (.cells #[i64 k,u64 n,bv,.string s,lv] ty)
 refine ⟨by simp,by simp,by simp,by simp,by simp,fun j => ?_⟩
 simp only [World.frozen?,ho]
 show (decide (0 ≤ j) && decide (j < 0)) = false
 simp
theorem ItBx.keep {W W' : World} {b : Nat} {k n : Int} {bv : Value} {s : ByteArray} {lv : Value} (h : ItBx W b k n bv s lv) (hb : W'.heap[b]? = W.heap[b]?) : ItBx W' b k n bv s lv := by
 refine ⟨?_, ?_, ?_, ?_, ?_, fun j => ?_⟩
 ·rw [← h.c0]; unfold World.cell?; rw [hb]
 ·rw [← h.c1]; unfold World.cell?; rw [hb]
 ·rw [← h.c2]; unfold World.cell?; rw [hb]
 ·rw [← h.c3]; unfold World.cell?; rw [hb]
 ·rw [← h.c4]; unfold World.cell?; rw [hb]
 ·rw [← h.fz j]; unfold World.frozen?; rw [hb]
theorem ItBx.lt {W : World} {b : Nat} {k n : Int} {bv : Value} {s : ByteArray} {lv : Value} (h : ItBx W b k n bv s lv) : b < W.heap.size := World.block_lt_of_cell? _ _ h.c0
theorem ItBx.ext {W W' : World} {b : Nat} {k n : Int} {bv : Value} {s : ByteArray} {lv : Value} (h : ItBx W b k n bv s lv) (hE : Ext W W') : ItBx W' b k n bv s lv := h.keep (hE.blk b h.lt)
theorem ItBx.mod {W W' : World} {b : Nat} {k n : Int} {bv : Value} {s : ByteArray} {lv : Value} {S : Nat → Prop} (h : ItBx W b k n bv s lv) (hE : Mod S W W') (hS : ¬ S b) : ItBx W' b k n bv s lv := h.keep (hE.blk b h.lt hS)
end Go.Proofs
namespace Go.Proofs
open Pk
set_option maxRecDepth 10000
attribute [local simp] beq_dec bne_dec prod_eta
theorem str_eq (s t : ByteArray) : (s.toList == t.toList) = decide (s = t) := by
 rw [ByteArray.toList_eq,ByteArray.toList_eq]
 obtain ⟨s⟩ := s
 obtain ⟨t⟩ := t
 rw [Bool.eq_iff_iff]
 simp only [beq_iff_eq,decide_eq_true_eq]
 constructor
 ·intro h; rw [Array.toList_inj.1 h]
 ·intro h; cases h; rfl
attribute [simp] str_eq
theorem beq_c {w : World} {v v' : Value} {b b' : List Int} (h : SlB w 1 v b.length (b.map u8)) (h' : SlB w 1 v' b'.length (b'.map u8)) (hb : b.length ≤ 9223372036854775807) :
  FN Tryz.prog 37 [v,v'] w fun e w' => e = .returned (.bool (decide (b = b'))) ∧ Ext w w' := by
 refine FN_enter Tryz.func37 rfl rfl (by kernel_rfl) ?_
 have l1 := fun ty W => h.isLen (P := Tryz.prog) (t := 27) (by simp) ty W
 have l2 := fun ty W => h'.isLen (P := Tryz.prog) (t := 27) (by simp) ty W
 by_cases hl : b.length = b'.length
 ·simp [l1,l2,hl]
  rw [← hl]
  refine WC_loop (fun k ρ ds w' => ∃ i : Nat,k = b.length - i ∧ i ≤ b.length ∧ ρ 0 = v ∧ ρ 1 = v' ∧ ρ 12 = i64 b.length ∧ ρ 13 = i64 i ∧ ds = [] ∧ Ext w w' ∧ b.take i = b'.take i) b.length ⟨0,by simp,by simp,by simp,by simp,by simp,by simp,rfl,Ext.refl _,rfl⟩ ?_
  rintro k ρ ds w1 ⟨i,rfl,hi,e0,e1,e12,e13,rfl,hE,ht⟩
  by_cases hlt : i < b.length
  ·have hlt' : i < b'.length := by omega
   simp [e12,e13,hlt]
   refine WC_drawQ 8 rfl (by kernel_rfl) ?_
   have hd := hE.trans (Ext.drew w1)
   have s1 := h.ext hd
   have s2 := h'.ext hd
   have i1 := s1.index (P := Tryz.prog) (t := 27) (by simp) .i64 i (by omega) (by omega) w1.drew
   have i2 := s2.index (P := Tryz.prog) (t := 27) (by simp) .i64 i (by omega) (by omega) w1.drew
   have a1 := s1.at_ i (u8 b[i]) (by simp [hlt])
   have a2 := s2.at_ i (u8 b'[i]) (by simp [hlt'])
   simp at i1 i2
   have t1 : b.take (i + 1) = b.take i ++ [b[i]] := by rw [List.take_add_one,List.getElem?_eq_getElem hlt]; rfl
   have t2 : b'.take (i + 1) = b'.take i ++ [b'[i]] := by rw [List.take_add_one,List.getElem?_eq_getElem hlt']; rfl
   by_cases he : b[i] = b'[i]
   ·simp [e0,e1,e12,e13,i1,i2,a1,a2,he]
    exact ⟨b.length - (i + 1),by omega,i + 1,rfl,by omega,by rw [wrap64 _ (by omega) (by omega)]; rfl,hd,by rw [t1,t2,ht,he]⟩
   ·simp [e0,e1,i1,i2,a1,a2,he]
    refine ⟨fun h => he ?_,hd⟩
    simp [h]
  ·have : i = b.length := by omega
   subst this
   simp [e12,e13]
   rw [List.take_length,hl,List.take_length] at ht
   exact ⟨ht,hE⟩
 ·have hn : ¬ b = b' := fun e => hl (by rw [e])
  have hl2 : ¬ ((b.length : Int) = (b'.length : Int)) := by omega
  simp [l1,l2,hl2,hn]
  exact Ext.refl w
theorem It.inj {k n : Int} {b : List Int} {s : ByteArray} {l : List It} {k' n' : Int} {b' : List Int} {s' : ByteArray} {l' : List It} : It.mk k n b s l = It.mk k' n' b' s' l' ↔ k = k' ∧ n = n' ∧ b = b' ∧ s = s' ∧ l = l' := by
 constructor
 ·intro h; cases h; exact ⟨rfl,rfl,rfl,rfl,rfl⟩
 ·rintro ⟨rfl,rfl,rfl,rfl,rfl⟩; rfl
theorem ieq_c {w : World} {v v' : Value} {l l' : List It} {css css' : List (List Value)} {f : FuncId} (h : SlB w 5 v l.length css.flatten) (hc : ItCs w l css) (h' : SlB w 5 v' l'.length css'.flatten) (hc' : ItCs w l' css') (hb : l.length ≤ 9223372036854775807)
  (hf : ∀ (x y : It) (cs ds : List Value) (W : World),x ∈ l → y ∈ l' → ItC W x cs → ItC W y ds → FN Tryz.prog f [.agg cs.toArray,.agg ds.toArray] W fun e w' => e = .returned (.bool (decide (x = y))) ∧ Ext W w') :
  FN Tryz.prog 286 [v,v',.func (.func f) #[] #[]] w fun e w' => e = .returned (.bool (decide (l = l'))) ∧ Ext w w' := by
 refine FN_enter Tryz.func286 rfl rfl (by kernel_rfl) ?_
 have l1 := fun ty W => h.isLen (P := Tryz.prog) (t := 158) (by simp) ty W
 have l2 := fun ty W => h'.isLen (P := Tryz.prog) (t := 158) (by simp) ty W
 by_cases hl : l.length = l'.length
 ·simp [l1,l2,hl]
  rw [← hl]
  refine WC_loop (fun k ρ ds w' => ∃ i : Nat,k = l.length - i ∧ i ≤ l.length ∧ ρ 1 = v' ∧ ρ 2 = .func (.func f) #[] #[] ∧ ρ 15 = v ∧ ρ 16 = i64 l.length ∧ ρ 17 = i64 i ∧ ds = [] ∧ Ext w w' ∧ l.take i = l'.take i) l.length ⟨0,by simp,by simp,by simp,by simp,by simp,by simp,by simp,rfl,Ext.refl _,rfl⟩ ?_
  rintro k ρ ds w1 ⟨i,rfl,hi,e1,e2,e15,e16,e17,rfl,hE,ht⟩
  by_cases hlt : i < l.length
  ·have hlt' : i < l'.length := by omega
   obtain ⟨k1,n1,b1,s1,v1,g1,c1,r1⟩ := itRow (h.ext hE) (hc.ext hE) hlt
   obtain ⟨k2,n2,b2,s2,v2,g2,c2,r2⟩ := itRow (h'.ext hE) (hc'.ext hE) hlt'
   have i1 := fun W => h.index (P := Tryz.prog) (t := 158) (by simp) .i64 i (by omega) (by omega) W
   have i2 := fun W => h'.index (P := Tryz.prog) (t := 158) (by simp) .i64 i (by omega) (by omega) W
   simp at i1 i2
   obtain ⟨⟨ba1,bm1,bc1,rfl⟩,⟨la1,lm1,lc1,rfl⟩⟩ := itC_slices c1
   obtain ⟨⟨ba2,bm2,bc2,rfl⟩,⟨la2,lm2,lc2,rfl⟩⟩ := itC_slices c2
   have hEA := (Ext.refl w1).alloc (.cells #[i64 k1,u64 n1,.slice ba1 bm1 bc1,.string s1,.slice la1 lm1 lc1] 160)
   have r2' := r2.ext hEA
   have hEB := hEA.alloc (.cells #[i64 k2,u64 n2,.slice ba2 bm2 bc2,.string s2,.slice la2 lm2 lc2] 160)
   simp [e1,e2,e15,e16,e17,hlt,i1,i2,r1.c0,r1.c1,r1.c2,r1.c3,r1.c4,r2.c0,r2.c1,r2.c2,r2.c3,r2.c4]
   have t1 : l.take (i + 1) = l.take i ++ [l[i]] := by rw [List.take_add_one,List.getElem?_eq_getElem hlt]; rfl
   have t2 : l'.take (i + 1) = l'.take i ++ [l'[i]] := by rw [List.take_add_one,List.getElem?_eq_getElem hlt']; rfl
   refine FN.mono (hf l[i] l'[i] _ _ _ (List.getElem_mem hlt) (List.getElem_mem hlt') (c1.ext hEB) (c2.ext hEB)) ?_
   rintro _ w2 ⟨rfl,hE2⟩
   have hE3 := hE.trans (hEB.trans hE2)
   by_cases he : l[i] = l'[i]
   ·simp [e1,e2,e15,e16,e17,he]
    exact ⟨l.length - (i + 1),by omega,i + 1,rfl,by omega,by rw [wrap64 _ (by omega) (by omega)]; rfl,hE3,by rw [t1,t2,ht,he]⟩
   ·simp [he]
    refine ⟨fun h => he ?_,hE3⟩
    simp [h]
  ·have : i = l.length := by omega
   subst this
   simp [e16,e17]
   rw [List.take_length,hl,List.take_length] at ht
   exact ⟨ht,hE⟩
 ·have hn : ¬ l = l' := fun e => hl (by rw [e])
  have hl2 : ¬ ((l.length : Int) = (l'.length : Int)) := by omega
  simp [l1,l2,hl2,hn]
  exact Ext.refl w
theorem same_n : ∀ (m : Nat) (t u : It) (cs ds : List Value) (w : World), SizeOf.sizeOf t ≤ m → ItC w t cs → ItC w u ds → FN Tryz.prog 250 [.agg cs.toArray, .agg ds.toArray] w fun e w' => e = .returned (.bool (decide (t = u))) ∧ Ext w w' := by
 intro m
 induction m with
 | zero => intro t u cs ds w hm; cases t; simp at hm
 | succ m ih =>
  intro t u cs ds w hm ht hu
  obtain ⟨k,n,b,s,l⟩ := t
  obtain ⟨k',n',b',s',l'⟩ := u
  obtain ⟨bv,lv,css,rfl,hb,hl,hc,hb1,hl1⟩ := itC_mk.1 ht
  obtain ⟨bv',lv',css',rfl,hb',hl',hc',hb1',hl1'⟩ := itC_mk.1 hu
  obtain ⟨⟨ba1,bm1,bc1,rfl⟩,⟨la1,lm1,lc1,rfl⟩⟩ := itC_slices ht
  obtain ⟨⟨ba2,bm2,bc2,rfl⟩,⟨la2,lm2,lc2,rfl⟩⟩ := itC_slices hu
  refine FN_enter Tryz.func250 rfl rfl (by kernel_rfl) ?_
  have hE1 : Ext w ((w.alloc (.cells #[i64 k,u64 n,.slice ba1 bm1 bc1,.string s,.slice la1 lm1 lc1] 160)).alloc (.cells #[i64 k',u64 n',.slice ba2 bm2 bc2,.string s',.slice la2 lm2 lc2] 160)) := ((Ext.refl w).alloc _).alloc _
  have x1 : ItBx ((w.alloc (.cells #[i64 k,u64 n,.slice ba1 bm1 bc1,.string s,.slice la1 lm1 lc1] 160)).alloc (.cells #[i64 k',u64 n',.slice ba2 bm2 bc2,.string s',.slice la2 lm2 lc2] 160)) w.heap.size k n (.slice ba1 bm1 bc1) s (.slice la1 lm1 lc1) := (ItBx.new w _ _ _ _ _ 160).ext ((Ext.refl _).alloc _)
  have x2 : ItBx ((w.alloc (.cells #[i64 k, u64 n, .slice ba1 bm1 bc1, .string s, .slice la1 lm1 lc1] 160)).alloc (.cells #[i64 k', u64 n', .slice ba2 bm2 bc2, .string s', .slice la2 lm2 lc2] 160)) (w.heap.size + 1) k' n' (.slice ba2 bm2 bc2) s' (.slice la2 lm2 lc2) := by
   have := ItBx.new (w.alloc (.cells #[i64 k,u64 n,.slice ba1 bm1 bc1,.string s,.slice la1 lm1 lc1] 160)) k' n' (.slice ba2 bm2 bc2) s' (.slice la2 lm2 lc2) 160
   simpa using this
  rw [show decide (It.mk k n b s l = It.mk k' n' b' s' l') = decide (k = k' ∧ n = n' ∧ b = b' ∧ s = s' ∧ l = l') by simp]
  by_cases hk : k = k'
  ·by_cases hn : n = n'
   ·simp [hk,hn]
    rw [hk,hn] at hE1 x1 x2
    generalize ((w.alloc _).alloc _) = w1 at *
    refine FN.mono (beq_c (hb.ext hE1) (hb'.ext hE1) hb1) ?_
    rintro _ w2 ⟨rfl,hE2⟩
    have hE12 := hE1.trans hE2
    have y1 := x1.ext hE2
    have y2 := x2.ext hE2
    by_cases hbb : b = b'
    ·by_cases hss : s = s'
     ·simp [hk,hn,hbb,hss,y1.c3,y2.c3,y1.c4,y2.c4]
      refine FN.mono (ieq_c (hl.ext hE12) (hc.ext hE12) (hl'.ext hE12) (hc'.ext hE12) hl1 (fun x y cs ds W hx hy h1 h2 => ih x y cs ds W (by have := It.lt hx k n b s; omega) h1 h2)) ?_
      rintro _ w3 ⟨rfl,hE3⟩
      simp
      exact hE12.trans hE3
     ·simp [hk,hn,hbb,hss,y1.c3,y2.c3]
      exact hE12
    ·simp [hbb]
     exact hE12
   ·simp [hk,hn]
    rw [hk] at hE1
    exact hE1
  ·simp [hk]
   exact hE1
theorem same_c {w : World} {t u : It} {cs ds : List Value} (ht : ItC w t cs) (hu : ItC w u ds) : FN Tryz.prog 250 [.agg cs.toArray,.agg ds.toArray] w fun e w' => e = .returned (.bool (decide (t = u))) ∧ Ext w w' := same_n _ t u cs ds w (Nat.le_refl _) ht hu
end Go.Proofs
namespace Go.Proofs
open Pk
set_option maxRecDepth 10000
def It.k : It → Int | .mk k _ _ _ _ => k
def It.n : It → Int | .mk _ n _ _ _ => n
def It.b : It → List Int | .mk _ _ b _ _ => b
def It.s : It → ByteArray | .mk _ _ _ s _ => s
def It.l : It → List It | .mk _ _ _ _ l => l
structure ItO (W : World) (t : It) (cs : List Value) (bv lv : Value) (css : List (List Value)) : Prop where
 cs : cs = [i64 t.k,u64 t.n,bv,.string t.s,lv]
 b : SlB W 1 bv t.b.length (t.b.map u8)
 l : SlB W 5 lv t.l.length css.flatten
 c : ItCs W t.l css
 lb : t.b.length ≤ 9223372036854775807
 ll : t.l.length ≤ 9223372036854775807
theorem itO {W : World} {t : It} {cs : List Value} (h : ItC W t cs) : ∃ ba bc la lc css, ItO W t cs (.slice ba t.b.length bc) (.slice la t.l.length lc) css := by
 cases t with
 | mk k n b s l =>
  obtain ⟨bv,lv,css,h1,h2,h3,h4,h5,h6⟩ := itC_mk.1 h
  obtain ⟨ba,bc,e1⟩ := h2.isSlice
  obtain ⟨la,lc,e2⟩ := h3.isSlice
  subst e1 e2
  exact ⟨ba,bc,la,lc,css,h1,h2,h3,h4,h5,h6⟩
theorem ItO.ext {W W' : World} {t : It} {cs : List Value} {bv lv : Value} {css : List (List Value)} (h : ItO W t cs bv lv css) (hE : Ext W W') : ItO W' t cs bv lv css :=
 ⟨h.cs,h.b.ext hE,h.l.ext hE,ItCs.ext h.c hE,h.lb,h.ll⟩
theorem ItO.itC {W : World} {t : It} {cs : List Value} {bv lv : Value} {css : List (List Value)} (h : ItO W t cs bv lv css) : ItC W t cs := by
 cases t with
 | mk k n b s l => exact itC_mk.2 ⟨bv,lv,css,h.cs,h.b,h.l,h.c,h.lb,h.ll⟩
theorem itRowO {W : World} {v : Value} {l : List It} {css : List (List Value)} (h : SlB W 5 v l.length css.flatten) (hc : ItCs W l css) {i : Nat} {x : It} (hx : l[i]? = some x) :
  ∃ ba bc la lc css',ItO W x [i64 x.k,u64 x.n,.slice ba x.b.length bc,.string x.s,.slice la x.l.length lc] (.slice ba x.b.length bc) (.slice la x.l.length lc) css' ∧ ItAt W v i x.k x.n (.slice ba x.b.length bc) x.s (.slice la x.l.length lc) := by
 obtain ⟨hi,rfl⟩ := List.getElem?_eq_some_iff.1 hx
 obtain ⟨k,n,bv,s,lv,-,h2,h3⟩ := itRow h hc hi
 obtain ⟨ba,bc,la,lc,css',h4⟩ := itO h2
 have e := h4.cs
 simp only [List.cons.injEq,Value.int.injEq,Value.string.injEq,and_true,true_and] at e
 obtain ⟨rfl,rfl,rfl,rfl,rfl⟩ := e
 exact ⟨ba,bc,la,lc,css',h4,h3⟩
def uintsOf (t : It) : List Int := if t.k = 4 then (t.l.filter fun x => decide (x.k = 1)).map It.n else []
def usUpTo (t : It) (i : Nat) : List Int := ((t.l.take i).filter fun x => decide (x.k = 1)).map It.n
theorem usUpTo_succ (t : It) {i : Nat} {x : It} (hx : t.l[i]? = some x) : usUpTo t (i + 1) = usUpTo t i ++ (if x.k = 1 then [x.n] else []) := by
 unfold usUpTo
 rw [List.take_add_one,hx,Option.toList_some,List.filter_append,List.map_append]
 by_cases h : x.k = 1 <;> simp [h]
def uSeg (l pre : List Int) : Prop := pre ≠ [] ∧ ∃ suf,l = pre ++ suf
theorem usUpTo_pre (t : It) (i : Nat) : ∃ suf, usUpTo t t.l.length = usUpTo t i ++ suf := by
 unfold usUpTo
 rw [List.take_length]
 refine ⟨((t.l.drop i).filter fun x => decide (x.k = 1)).map It.n,?_⟩
 rw [← List.map_append,← List.filter_append,List.take_append_drop]
set_option maxHeartbeats 1000000 in
theorem uints_it {w0 w : World} {b : Nat} {t : It} {cs : List Value} (hx0 : Ext w0 w) (hb : Blk w b cs) (ht : ItC w0 t cs) :
  Iter Tryz.prog (.func (.func 330) #[] #[ptr b]) (fun x : Int => [u64 x]) (· = uintsOf t) (uSeg (uintsOf t)) (fun k => k < w0.heap.size ∨ k = b) w := by
 intro y C0 J Jx W hA hcap hC0 hJ hJx hyl h0
 have hold : ∀ k,k < w0.heap.size → ¬ C0 k := fun k hk => (hcap k (.inl hk)).2
 obtain ⟨ba,bc,la,lc,css,hO⟩ := itO ht
 have hEW : Ext w W := ⟨hA.os,hA.tape,hA.out,hA.size,fun i hi => hA.blk i hi hi⟩
 have hE0 := hx0.trans hEW
 have hOW := hO.ext hE0
 have hbW := hb.ext hEW
 have e := hO.cs
 subst e
 refine FN_enter Tryz.func330 rfl rfl (by kernel_rfl) ?_
 by_cases hk : t.k = 4
 ·have hu : uintsOf t = usUpTo t t.l.length := by unfold uintsOf usUpTo; rw [if_pos hk,List.take_length]
  have hlen := fun ty W => hO.l.isLen (P := Tryz.prog) (t := 158) (by simp) ty W
  simp
  refine WC_scope 0 _ rfl ?_
  simp [hbW.cell 0 _ rfl,hbW.cell 4 _ rfl,hk,hlen]
  refine WC_loop (fun k ρ ds w' => ∃ (i : Nat) (C : Nat → Prop), k = t.l.length - i ∧ i ≤ t.l.length ∧ ρ 0 = y ∧ ρ 9 = .slice la t.l.length lc ∧ ρ 10 = i64 t.l.length ∧ ρ 11 = i64 i ∧ ds = [] ∧ J C (usUpTo t i) w' ∧
   (∀ k,C k → C0 k ∨ W.heap.size ≤ k) ∧ Agr (fun k => k < W.heap.size ∧ ¬ C0 k) W w') t.l.length ⟨0,C0,by simp,by simp,by simp,by simp,by simp,by simp,rfl,h0,fun k h => .inl h,Agr.refl _ _⟩ ?_
  rintro k ρ ds w3 ⟨i,C,rfl,hi,e0,e9,e10,e11,rfl,hj,hC,hAg⟩
  have hEx : Ext w0 w3 := ⟨hAg.os.trans hE0.os,hAg.tape.trans hE0.tape,hAg.out.trans hE0.out,Nat.le_trans hE0.size hAg.size,fun i hi => (hAg.blk i (Nat.lt_of_lt_of_le hi hE0.size) ⟨Nat.lt_of_lt_of_le hi hE0.size,hold i hi⟩).trans (hE0.blk i hi)⟩
  have hO3 := hO.ext hEx
  by_cases hlt : i < t.l.length
  ·have hq := List.getElem?_eq_getElem hlt
   obtain ⟨x,hx⟩ : ∃ x,x = t.l[i] := ⟨_,rfl⟩
   rw [← hx] at hq
   obtain ⟨ba',bc',la',lc',css',hxO,hA'⟩ := itRowO hO3.l hO3.c hq
   have ix := hO3.l.index (P := Tryz.prog) (t := 158) (by simp) .i64 i (by omega) (by omega) w3
   simp at ix
   have hsuc := usUpTo_succ t hq
   have hw1 : IntKind.i64.wrap ((i : Int) + 1) = i + 1 := wrap64 _ (by omega) (by have := hO.ll; omega)
   have hE4 : Ext w3 (w3.alloc (.cells #[i64 x.k,u64 x.n,.slice ba' x.b.length bc',.string x.s,.slice la' x.l.length lc'] 160)) := (Ext.refl _).alloc _
   by_cases hk1 : x.k = 1
   ·rw [if_pos hk1] at hsuc
    have hsp : uSeg (uintsOf t) (usUpTo t i ++ [x.n]) := by
     refine ⟨List.append_ne_nil_of_right_ne_nil _ (by simp),?_⟩
     rw [hu,← hsuc]
     exact usUpTo_pre t (i + 1)
    have hj4 := hJ _ _ _ _ hj hE4.agr
    have hc1 : ((x.k : Int) == 1) = true := by simp [hk1]
    simp [e0,e9,e10,e11,hlt,ix,hA'.c0,hA'.c1,hA'.c2,hA'.c3,hA'.c4,hc1]
    refine CV.mono (hyl C (usUpTo t i) x.n _ hsp hj4) ?_
    rintro _ w4 (⟨rfl, C', hj', hown⟩ | ⟨rfl, C', hj', hown⟩)
    ·have hAg' : Agr (fun k => k < W.heap.size ∧ ¬ C0 k) w3 w4 := hE4.agr.trans (hown.mod.agr (S' := fun k => k < W.heap.size ∧ ¬ C0 k) (fun k hk hc => by rcases hC k hc with h | h; exact hk.2 h; omega))
     simp [e0,e9,e10,e11,hw1]
     refine ⟨t.l.length - (i + 1),by omega,i + 1,rfl,by omega,by push_cast; rfl,C',by rw [hsuc]; exact hj',?_,hAg.trans hAg'⟩
     intro k hk
     rcases hown.own k hk with h | h
     ·exact hC k h
     ·exact .inr (Nat.le_trans hAg.size (Nat.le_trans hE4.size h))
    ·simp
     exact ⟨C',.inr ⟨_,hsp,hj'⟩⟩
   ·rw [if_neg hk1,List.append_nil] at hsuc
    have hj4 := hJ _ _ _ _ hj hE4.agr
    have hc1 : ((x.k : Int) == 1) = false := by simp [hk1]
    simp [e0,e9,e10,e11,hlt,ix,hA'.c0,hA'.c1,hA'.c2,hA'.c3,hA'.c4,hc1,hw1]
    exact ⟨t.l.length - (i + 1),by omega,i + 1,rfl,by omega,by push_cast; rfl,C,by rw [hsuc]; exact hj4,hC,hAg.trans hE4.agr⟩
  ·simp [e10,e11,hlt]
   have hil : i = t.l.length := by omega
   rw [hil] at hj
   exact ⟨C,.inl (by rw [hu]; exact hj)⟩
 ·have hu : uintsOf t = [] := by unfold uintsOf; rw [if_neg hk]
  simp
  refine WC_scope 0 _ rfl ?_
  simp [bne_dec,hbW.cell 0 _ rfl,hk]
  exact ⟨C0,.inl (by rw [hu]; exact h0)⟩
theorem uints_c {w : World} {t : It} {cs : List Value} (ht : ItC w t cs) : FN Tryz.prog 311 [.agg cs.toArray] w fun e w' => ∃ b, e = .returned (.func (.func 330) #[] #[ptr b]) ∧ Blk w' b cs ∧ w.heap.size ≤ b ∧ Ext w w' := by
 obtain ⟨ba,bc,la,lc,css,hO⟩ := itO ht
 have e := hO.cs
 subst e
 refine FN_enter Tryz.func311 rfl rfl (by kernel_rfl) ?_
 simp
 exact ⟨Blk.new w [i64 t.k,u64 t.n,.slice ba t.b.length bc,.string t.s,.slice la t.l.length lc] _,(Ext.refl _).alloc _⟩
structure Acc (w0 w : World) (bl : Nat) (v : Value) (acc : List Int) : Prop where
 var : Var w bl v
 own : w.ownsRow (bl + 1) 24 1 v acc.length (acc.map u64)
 ext : Ext w0 w
theorem Acc.more {w0 w w' : World} {bl : Nat} {v : Value} {acc : List Int} (h : Acc w0 w bl v acc) (hE : Ext w w') : Acc w0 w' bl v acc := ⟨h.var.ext hE,own_ext h.own hE,h.ext.trans hE⟩
def AccS (bl : Nat) (v : Value) (k : Nat) : Prop := k = bl ∨ (slN v = false ∧ k = slB v)
def Grew (w : World) (v v' : Value) : Prop := slN v' = false → (slN v = false ∧ slB v' = slB v) ∨ w.heap.size ≤ slB v'
theorem Acc.row {w0 w : World} {bl : Nat} {v : Value} {acc : List Int} (h : Acc w0 w bl v acc) (hn : slN v = false) : bl < slB v ∧ slB v < w.heap.size := by
 obtain ⟨c,hc⟩ := own_obj h.own hn
 exact ⟨by have := own_ge h.own hn; omega,(Array.getElem?_eq_some_iff.1 hc).1⟩
set_option maxHeartbeats 1000000 in
theorem add_c {w0 w : World} {bl : Nat} {v : Value} {acc : List Int} {t : It} {cs : List Value} (ht : ItC w0 t cs) (h : Acc w0 w bl v acc) (hbl : w0.heap.size ≤ bl) (hlen : (acc ++ uintsOf t).length ≤ 1048576) :
  FN Tryz.prog 310 [.agg cs.toArray,ptr bl] w fun e w' => (∃ u,e = .returned u) ∧ ∃ v',Acc w0 w' bl v' (acc ++ uintsOf t) ∧ Mod (AccS bl v) w w' ∧ Grew w v v' := by
 obtain ⟨hv,ho,hE⟩ := h
 have htw := ItP.ext ht hE
 obtain ⟨ba,bc,la,lc,css,hO⟩ := itO htw
 have e := hO.cs
 refine FN_enter Tryz.func310 rfl rfl (by kernel_rfl) ?_
 have hcs : cs.toArray = #[i64 t.k,u64 t.n,.slice ba t.b.length bc,.string t.s,.slice la t.l.length lc] := by rw [e]
 rw [hcs]
 simp
 have hE1 : Ext w (w.alloc (.cells #[i64 t.k,u64 t.n,.slice ba t.b.length bc,.string t.s,.slice la t.l.length lc] 160)) := (Ext.refl _).alloc _
 have hu := uints_c (ItP.ext htw hE1)
 rw [hcs] at hu
 have hbw := hv.lt
 refine FN.mono (hu) ?_
 rintro _ w2 ⟨b,rfl,hb,hb2,hE2⟩
 have hX := hE1.trans hE2
 have hX0 := hE.trans hX
 have v2 := hv.ext hX
 have o2 := own_ext ho hX
 have z1 := hE1.size
 have z2 := hE2.size
 have hit := uints_it hX0 hb ht
 have hrow : slN v = false → slB v < w.heap.size := fun hn => by
  obtain ⟨c,hc⟩ := own_obj ho hn
  exact (Array.getElem?_eq_some_iff.1 hc).1
 have hcap : ∀ k, (k < w0.heap.size ∨ k = b) → k < w2.heap.size := fun k hk => by
  rcases hk with hk | rfl
  ·have := hX0.size; omega
  ·exact hb.lt
 simp
 refine WC_rangeFunc (gf := 330) (first := #[]) (caps := #[ptr b]) (enc := fun x : Int => [u64 x]) (by simp) (fun _ _ => callFunc_enter Tryz.func330 rfl rfl _ _) hit (by simp) (fun k => k = bl ∨ (slN v = false ∧ k = slB v))
  (fun C pre W => ∃ u,Var W bl u ∧ W.ownsRow (bl + 1) 24 1 u (acc ++ pre).length ((acc ++ pre).map u64) ∧ (∀ k,C k ↔ k = bl ∨ (slN u = false ∧ k = slB u)) ∧ Ext w0 W ∧ Mod (AccS bl v) w2 W ∧ Grew w2 v u) (fun _ _ _ _ => False)
  (fun k hk => ⟨hcap k hk,?_⟩) (fun k hk => ?_) ?_ (fun _ _ _ _ _ h _ => h.elim) ⟨v,v2,by simpa using o2,fun _ => Iff.rfl,hX0,Mod.refl _ _,fun hn => .inl ⟨hn,rfl⟩⟩ ?ρ ?ha ?_ ?_ (fun _ _ _ _ _ h _ => h.elim)
 case ha =>
  intro l x W
  simp
  exact rfl
 ·rintro (rfl | ⟨h1, rfl⟩)
  ·rcases hk with hk | hk <;> omega
  ·have := own_ge ho h1
   have := hrow h1
   rcases hk with hk | hk <;> omega
 ·rcases hk with rfl | ⟨h1, rfl⟩
  ·omega
  ·have := hrow h1; omega
 ·rintro C pre W W' ⟨u,h1,h2,h3,h4,h6,h7⟩ hag
  refine ⟨u, h1.agr hag (.inr ((h3 _).2 (.inl rfl))), own_keep h2 fun hn hl => hag.blk _ hl (.inr ((h3 _).2 (.inr ⟨hn, rfl⟩))), h3, ?_, ?_, h7⟩
  ·exact ⟨hag.os.trans h4.os,hag.tape.trans h4.tape,hag.out.trans h4.out,Nat.le_trans h4.size hag.size,fun i hi => (hag.blk i (Nat.lt_of_lt_of_le hi h4.size) (.inl (by have := hX0.size; omega))).trans (h4.blk i hi)⟩
  ·exact ⟨hag.os.trans h6.os,hag.tape.trans h6.tape,hag.out.trans h6.out,Nat.le_trans h6.size hag.size,fun i hi hn => (hag.blk i (Nat.lt_of_lt_of_le hi h6.size) (.inl hi)).trans (h6.blk i hi hn)⟩
 ·rintro l C pre x W hsp ⟨u,h1,h2,h3,h4,h6,h7⟩ - - -
  simp [h1.cell]
  have e1 := (Ext.refl W).alloc (.cells #[u64 x] 24)
  have h1' := h1.ext e1
  have h2' := own_ext h2 e1
  have hpl : (acc ++ pre).length + 1 ≤ 1048576 := by
   obtain ⟨_,suf,hs⟩ := hsp
   rw [hs] at hlen
   simp only [List.length_append,List.length_singleton] at hlen ⊢
   omega
  obtain ⟨u',W2,hr,ho',hm,hnew⟩ := append_own (P := Tryz.prog) (t := 83) (ty := 83) (e := 24) (s := 1) (by simp) (by simp) (by kernel_rfl) h2' (Sl.one W (u64 x) 24) (by intro z hz; rw [List.mem_singleton] at hz; subst hz; rfl) hpl (by have := h1'.lt; omega)
  simp [hr]
  have g1 := h1'.mod hm (fun h => by have := own_ge h2' h.1; omega)
  obtain ⟨a',c',rfl⟩ := own_val ho'
  simp [g1.cell,g1.thaw]
  have hM := Mod.setCell (S := fun k => k = bl) (Mod.refl _ W2) ⟨bl,0,none⟩ (.slice a' ((acc ++ pre).length + 1) c') (.inl rfl)
  have hCge : ∀ i, C i → w0.heap.size ≤ i := fun i hi => by
   rcases (h3 i).1 hi with h | ⟨h, h'⟩
   ·omega
   ·have := own_ge h2 h; omega
  have hm' : Pk.Mod C W W2 := e1.mod.trans' hm (S := C) (fun i hi => .inl ((h3 i).2 (.inr hi)))
  have hx : Ext w0 W2 := ((h4.mod (S := fun k => w0.heap.size ≤ k)).trans (hm'.weaken hCge)).ext (fun _ h => h)
  have hmk : ∀ k,k = bl → C k := fun k hk => (h3 k).2 (.inl hk)
  obtain ⟨N,hN⟩ : ∃ N,N = (acc ++ pre).length + 1 := ⟨_,rfl⟩
  have ho2 : W2.ownsRow (bl + 1) 24 1 (.slice a' N c') (acc ++ (pre ++ [x])).length ((acc ++ (pre ++ [x])).map u64) := by
   rw [hN]
   simpa [Nat.add_assoc] using ho'
  rw [show acc.length + pre.length + 1 = N by rw [hN]; simp] 
  have hgs := g1.set (.slice a' N c')
  have hM' := Mod.setCell (S := fun k => k = bl) (Mod.refl _ W2) ⟨bl,0,none⟩ (.slice a' N c') (.inl rfl)
  refine ⟨fun k => k = bl ∨ (slN (.slice a' N c') = false ∧ k = slB (.slice a' N c')), ⟨_, hgs, ?_, fun k => Iff.rfl, ?_, ?_, ?_⟩, ?_, ?_, ?_⟩
  ·have := own_keep ho2 (w' := W2.setCell ⟨bl,0,none⟩ (.slice a' N c')) fun hn hl => hM'.blk _ hl (by have := own_ge ho2 hn; omega)
   simpa using this
  ·exact hx.setCell _ _ hbl
  ·refine (h6.trans' hm' fun k hk => ?_).trans (hM'.weaken fun k hk => .inl hk)
   rcases (h3 k).1 hk with h | ⟨h, rfl⟩
   ·exact .inl (.inl h)
   ·rcases h7 h with ⟨h8, h9⟩ | h8
    ·exact .inl (.inr ⟨h8,h9⟩)
    ·exact .inr h8
  ·rw [← hN] at hnew
   intro hn
   rcases hnew hn with ⟨h5, h8⟩ | h5
   ·rcases h7 h5 with ⟨h9, h10⟩ | h9
    ·exact .inl ⟨h9,h8.trans h10⟩
    ·rw [h8]; exact .inr h9
   ·exact .inr (by have := h6.size; have := e1.size; omega)
  ·exact hm'.trans (hM'.weaken hmk)
  ·rw [← hN] at hnew
   rintro k (h | ⟨h, rfl⟩)
   ·exact .inl (hmk k h)
   ·rcases hnew h with ⟨h5, h6⟩ | h5
    ·exact .inl ((h3 _).2 (.inr ⟨h5,h6⟩))
    ·have := e1.size; exact .inr (by omega)
  ·rintro k (h | ⟨h, rfl⟩)
   ·exact .inl (hmk k h)
   ·have := own_lt ho2 h
    exact .inr (by simpa using this)
 ·rintro C xs W rfl ⟨u,h1,h2,h3,h4,h6,h7⟩ hD
  simp
  refine LV_mark hD (by simp) ?_
  simp
  have hDb := (Array.getElem?_eq_some_iff.1 hD).1
  have nbl : w2.heap.size ≠ bl := by omega
  have hz2 : w.heap.size ≤ w2.heap.size := hX.size
  refine ⟨u,⟨h1.keep (World.putObj_heap_other (by omega)),own_keep h2 fun hn hl => World.putObj_heap_other ?_,h4.putObj _ _ (by have := hX0.size; omega)⟩,(hX.mod.trans h6).trans' (Mod.putObj _ _) (fun k hk => .inr (by rw [hk]; exact hz2)),fun hn => ?_⟩
  rotate_left
  ·rcases h7 hn with h8 | h8
   ·exact .inl h8
   ·exact .inr (by omega)
  intro e
  obtain ⟨c,hc⟩ := own_obj h2 hn
  rw [e,hD] at hc
  cases hc
end Go.Proofs