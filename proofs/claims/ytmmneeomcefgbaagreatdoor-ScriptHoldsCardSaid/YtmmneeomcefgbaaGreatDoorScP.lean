/-
 Contracts of the functions that the law reaches,step by step.
-/
import Derived.Test.YtmmneeomcefgbaaGreatDoorScO
namespace Go.Proofs
open Pk
set_option maxRecDepth 100000
attribute [local simp] beq_dec bne_dec
abbrev openT : Tx := [111,112,101,110]
def lnW : List (Tx × Int) := [([110, 111, 100, 101], 1), (openT, 2), ([99, 108, 111, 115, 101], 2), ([115, 101, 110, 100], 3), ([109, 101, 109, 98, 101, 114], 8), (tellT, 16), ([97, 105, 114], 4), ([108, 105, 103, 104, 116], 5),
 ([112,108,97,110],6),([115,116,101,112],7),([116,114,101,101],9),([115,101,114,118,101],10),([108,97,110,100],11),([116,105,99,107],12),([99,114,97,115,104],13),([97,114,109],14),([97,115,107],15)]
def hitW (t : Trn) (p : Tx × Int) : Bool := decide (p.2 = t.kind) && (decide (t.kind ≠ 2) || (decide (p.1 = openT) == t.yes))
def findW (t : Trn) : Option (Tx × Int) := lnW.find? (hitW t)
theorem lnW_one : ∀ p ∈ lnW,∀ q ∈ lnW,p.2 = q.2 → (p.2 = 2 → decide (p.1 = openT) = decide (q.1 = openT)) → p = q := by decide +kernel
theorem lnW_tell : ∀ p ∈ lnW,p.1 = tellT → p.2 = 16 := by decide +kernel
theorem lnW_sp : ∀ p ∈ lnW,(32 : UInt8) ∉ p.1 ∧ p.1.length ≤ 6 := by decide +kernel
theorem findW_hit {t : Trn} {p : Tx × Int} (hp : p ∈ lnW) (h : hitW t p = true) : findW t = some p := by
 rcases hf : findW t with _ | q
 ·have := List.find?_eq_none.1 hf p hp
  exact absurd h this
 ·have hq := List.find?_some hf
  have hm := List.mem_of_find?_eq_some hf
  simp only [hitW,Bool.and_eq_true,decide_eq_true_eq,Bool.or_eq_true,beq_iff_eq] at h hq
  rw [lnW_one q hm p hp (by rw [hq.1, h.1]) fun h2 => by
   have h3 := hq.2.resolve_left (by omega)
   have h4 := h.2.resolve_left (by omega)
   rw [h3,h4]]
def layK (tl : Trn → Option (List Tx)) (t : Trn) : Option (List Tx) :=
 if t.kind = 1 then lnodeP t else if t.kind = 2 then lopenP t else if t.kind = 3 then lsendP t else if t.kind = 4 then lairP t else if t.kind = 5 then llightP t else if t.kind = 6 then lplanP t
 else if t.kind = 7 then lstepP t else if t.kind = 8 then lmemberP t else if t.kind = 9 then ltreeP t else if t.kind = 10 then lserveP t else if t.kind = 11 then llandP t else if t.kind = 12 then ltickP t
 else if t.kind = 13 then lcrashP t else if t.kind = 14 then larmP t else if t.kind = 15 then laskP t else if t.kind = 16 then tl t else none
def LayF (tl : Trn → Option (List Tx)) (t : Trn) (vp vk fl : Value) : Prop := ∀ {w : World}, SlB w 1 vp t.pay.length (t.pay.map encB) → SlB w 1 vk t.keep.length (t.keep.map Value.bool) → t.pay.length ≤ 1000000 → t.keep.length ≤ 1000000 → Gl w →
 CV Tryz.prog fl [trV t vp vk] w fun e w' => LayE w w' (layK tl t) e
theorem lnL_all (tl : Trn → Option (List Tx)) {f1 f2 : Nat} {t : Trn} {vp vk : Value} (ht : t.Ok) (htell : t.kind = 16 → LayF tl t vp vk (fnT 122)) : ∀ p ∈ lnL f1 f2, ∃ (k : Int) (fl fr : Value), p.2 = [i64 k, fl, fr] ∧ (p.1, k) ∈ lnW ∧ oneV fl = true ∧ oneV fr = true ∧ (k = t.kind → LayF tl t vp vk fl) := by
 intro p hp
 simp only [lnL,List.mem_cons,List.not_mem_nil,or_false] at hp
 rcases hp with rfl | rfl | rfl | rfl | rfl | rfl | rfl | rfl | rfl | rfl | rfl | rfl | rfl | rfl | rfl | rfl | rfl
 ·exact ⟨1,_,_,rfl,by simp [lnW],rfl,rfl,fun h _ hp hk hpl hkl hG => by rw [CV_func]; have := lnode_c ht hp hk hpl hkl hG; rwa [show lnodeP t = layK tl t by simp [layK,← h]] at this⟩
 ·exact ⟨2,_,_,rfl,by simp [lnW],rfl,rfl,fun h _ hp hk hpl hkl hG => by rw [CV_func]; have := lopen_c ht hp hk hpl hkl hG; rwa [show lopenP t = layK tl t by simp [layK,← h]] at this⟩
 ·exact ⟨2,_,_,rfl,by simp [lnW],rfl,rfl,fun h _ hp hk hpl hkl hG => by rw [CV_func]; have := lopen_c ht hp hk hpl hkl hG; rwa [show lopenP t = layK tl t by simp [layK,← h]] at this⟩
 ·exact ⟨3,_,_,rfl,by simp [lnW],rfl,rfl,fun h _ hp hk hpl hkl hG => by rw [CV_func]; have := lsend_c ht hp hk hpl hkl hG; rwa [show lsendP t = layK tl t by simp [layK,← h]] at this⟩
 ·exact ⟨8,_,_,rfl,by simp [lnW],rfl,rfl,fun h _ hp hk hpl hkl hG => by rw [CV_func]; have := lmember_c ht hp hk hpl hkl hG; rwa [show lmemberP t = layK tl t by simp [layK,← h]] at this⟩
 ·exact ⟨16,_,_,rfl,by simp [lnW],rfl,rfl,fun h => htell h.symm⟩
 ·exact ⟨4,_,_,rfl,by simp [lnW],rfl,rfl,fun h _ hp hk hpl hkl hG => by rw [CV_func]; have := lair_c ht hp hk hpl hkl hG; rwa [show lairP t = layK tl t by simp [layK,← h]] at this⟩
 ·exact ⟨5,_,_,rfl,by simp [lnW],rfl,rfl,fun h _ hp hk hpl hkl hG => by rw [CV_func]; have := llight_c ht hp hk hpl hkl hG; rwa [show llightP t = layK tl t by simp [layK,← h]] at this⟩
 ·exact ⟨6,_,_,rfl,by simp [lnW],rfl,rfl,fun h _ hp hk hpl hkl hG => by rw [CV_func]; have := lplan_c ht hp hk hpl hkl hG; rwa [show lplanP t = layK tl t by simp [layK,← h]] at this⟩
 ·exact ⟨7,_,_,rfl,by simp [lnW],rfl,rfl,fun h _ hp hk hpl hkl hG => by rw [CV_func]; have := lstep_c ht hp hk hpl hkl hG; rwa [show lstepP t = layK tl t by simp [layK,← h]] at this⟩
 ·exact ⟨9,_,_,rfl,by simp [lnW],rfl,rfl,fun h _ hp hk hpl hkl hG => by rw [CV_func]; have := ltree_c ht hp hk hpl hkl hG; rwa [show ltreeP t = layK tl t by simp [layK,← h]] at this⟩
 ·exact ⟨10,_,_,rfl,by simp [lnW],rfl,rfl,fun h _ hp hk hpl hkl hG => by rw [CV_func]; have := lserve_c ht hp hk hpl hkl hG; rwa [show lserveP t = layK tl t by simp [layK,← h]] at this⟩
 ·exact ⟨11,_,_,rfl,by simp [lnW],rfl,rfl,fun h _ hp hk hpl hkl hG => by rw [CV_func]; have := lland_c ht hp hk hpl hkl hG; rwa [show llandP t = layK tl t by simp [layK,← h]] at this⟩
 ·exact ⟨12,_,_,rfl,by simp [lnW],rfl,rfl,fun h _ hp hk hpl hkl hG => by rw [CV_func]; have := ltick_c ht hp hk hpl hkl hG; rwa [show ltickP t = layK tl t by simp [layK,← h]] at this⟩
 ·exact ⟨13,_,_,rfl,by simp [lnW],rfl,rfl,fun h _ hp hk hpl hkl hG => by rw [CV_func]; have := lcrash_c ht hp hk hpl hkl hG; rwa [show lcrashP t = layK tl t by simp [layK,← h]] at this⟩
 ·exact ⟨14,_,_,rfl,by simp [lnW],rfl,rfl,fun h _ hp hk hpl hkl hG => by rw [CV_func]; have := larm_c ht hp hk hpl hkl hG; rwa [show larmP t = layK tl t by simp [layK,← h]] at this⟩
 ·exact ⟨15,_,_,rfl,by simp [lnW],rfl,rfl,fun h _ hp hk hpl hkl hG => by rw [CV_func]; have := lask_c ht hp hk hpl hkl hG; rwa [show laskP t = layK tl t by simp [layK,← h]] at this⟩
theorem wds_app : ∀ (s r : Tx), (32 : UInt8) ∉ s → wds (s ++ 32 :: r) = s :: wds r
 | [],r,_ => by simp [wds]
 | c :: s, r, h => by
  have hc : c ≠ 32 := fun e => h (by simp [e])
  rw [List.cons_append,wds,if_neg hc,wds_app s r (fun e => h (by simp [e]))]
theorem wds_one : ∀ (s : Tx), (32 : UInt8) ∉ s → wds s = [s]
 | [],_ => rfl
 | c :: s, h => by
  have hc : c ≠ 32 := fun e => h (by simp [e])
  rw [wds,if_neg hc,wds_one s (fun e => h (by simp [e]))]
def joinW (l : List Tx) : Tx := Lib.join l [32]
theorem joinW_head (s : Tx) (l : List Tx) (h : (32 : UInt8) ∉ s) : ∃ l', wds (joinW (s :: l)) = s :: l' := by
 unfold joinW
 rw [Lib.join_cons]
 cases l with
 | nil => exact ⟨[],by simp [Lib.joinTail,wds_one s h]⟩
 | cons y r => exact ⟨_,by simp only [Lib.joinTail,List.map_cons,List.flatten_cons,List.cons_append,List.nil_append]; exact wds_app s _ h⟩
theorem joinTail_len (B : Nat) : ∀ (r : List Tx), (∀ y ∈ r, y.length ≤ B) → (Lib.joinTail [32] r).length ≤ r.length * (B + 1)
 | [],_ => by simp [Lib.joinTail]
 | y :: r, h => by
  have h1 := joinTail_len B r fun z hz => h z (by simp [hz])
  have h2 := h y (by simp)
  simp only [Lib.joinTail,List.map_cons,List.flatten_cons,List.length_append,List.length_cons,List.length_nil] at h1 ⊢
  rw [Nat.add_mul]
  omega
theorem dec_len {n : Nat} (h : n ≤ 18446744073709551615) : (Lib.decDigits n).length ≤ 45 := by
 rw [Lib.decDigits_length]
 have := nd20 n h
 omega
theorem decI_len {x : Int} (h : 0 ≤ x ∧ x ≤ 18446744073709551615) : (decI x).length ≤ 45 := dec_len (by omega)
def Bnd (B : Nat) (o : Option (List Tx)) : Prop := ∀ l,o = some l → l.length ≤ 8 ∧ ∀ x ∈ l,x.length ≤ B
theorem Bnd.some {B : Nat} {l : List Tx} (h1 : l.length ≤ 8) (h2 : ∀ x ∈ l,x.length ≤ B) : Bnd B (some l) := fun m h => by cases h; exact ⟨h1,h2⟩
theorem Bnd.cap {B M : Nat} {n : Int} {f : Tx → Option (List Tx)} (hM : M ≤ 18446744073709551615) (h : ∀ x, x.length ≤ 45 → Bnd B (f x)) : Bnd B ((capI M n).bind f) := by
 intro l hl
 unfold capI capT at hl
 split at hl
 ·exact h _ (dec_len (by omega)) l hl
 ·cases hl
theorem Bnd.point {B : Nat} {n s : Int} {f : Tx → Option (List Tx)} (hn : R32 n) (hs : R32 s) (h : ∀ x, x.length ≤ 45 → Bnd B (f x)) : Bnd B ((pointI n s).bind f) := by
 intro l hl
 unfold pointI pointP at hl
 split at hl
 ·cases hl
 ·refine h _ ?_ l hl
  unfold toldP
  split
  ·simp
  ·simp only [List.length_append,Lib.decDigits_length]
   have := nd10 n.toNat (by omega)
   have := nd10 s.toNat (by omega)
   simp
   omega
theorem Bnd.mono {A B : Nat} {o : Option (List Tx)} (h : Bnd A o) (hl : A ≤ B) : Bnd B o := fun l e => ⟨(h l e).1,fun x hx => Nat.le_trans ((h l e).2 x hx) hl⟩
theorem hexO_len (b : List UInt8) : (hexO b).length ≤ 2 * b.length + 1 := by
 unfold hexO
 split
 ·simp
 ·rw [hexT_len]; omega
theorem bitsO_len (b : List Bool) : (bitsO b).length ≤ b.length + 1 := by
 unfold bitsO
 split
 ·simp
 ·simp
theorem R32.w {x : Int} (h : R32 x) : 0 ≤ x ∧ x ≤ 18446744073709551615 := by omega
theorem ctL_bnd {c : Ctc} (h : c.Ok) : Bnd 45 (ctL c) :=
 Bnd.cap (by decide) fun x hx => Bnd.cap (by decide) fun y hy => Bnd.cap (by decide) fun z hz => Bnd.some (by simp) (by
  have h1 := decI_len h.fr.w
  have h2 := decI_len h.to'.w
  simp [*])
theorem stL_bnd {c : Stp} (h : c.Ok) : Bnd 45 (stL c) :=
 Bnd.cap (by decide) fun x hx => Bnd.cap (by decide) fun y hy => Bnd.some (by simp) (by
  have h1 := decI_len h.fr.w
  have h2 := decI_len h.to'.w
  simp [*])
theorem layK_bnd (tl : Trn → Option (List Tx)) {t : Trn} (ht : t.Ok) {B : Nat} (hB : 2 * t.pay.length + t.keep.length + 100 ≤ B) (htl : Bnd B (tl t)) : Bnd B (layK tl t) := by
 have h1 := decI_len ht.node.w
 have h2 := decI_len ht.to'.w
 have h3 := decI_len (x := t.fate) (by have := ht.fate; omega)
 have h4 := decI_len ht.lsvc.w
 have h5 := decI_len ht.lflg.w
 have h6 := decI_len (x := t.lim) (by have := ht.lim; omega)
 have h7 := decI_len ht.mn.w
 have h8 := decI_len ht.mr.w
 have h9 := decI_len ht.me.w
 have h10 := hexO_len t.pay
 have h11 := bitsO_len t.keep
 have h12 : (ioT t.mi).length ≤ 3 := by cases t.mi <;> decide
 have all : ∀ (l : List Tx),l.length ≤ 8 → (∀ x ∈ l,x.length ≤ 2 * t.pay.length + t.keep.length + 50) → Bnd B (some l) := fun l a b => Bnd.some a fun x hx => by have := b x hx; omega
 unfold layK
 by_cases k1 : t.kind = 1
 ·rw [if_pos k1]
  exact Bnd.cap (by decide) fun x hx => all _ (by simp) (by simp; omega)
 rw [if_neg k1]
 by_cases k2 : t.kind = 2
 ·rw [if_pos k2]
  exact Bnd.cap (by decide) fun x hx => all _ (by simp) (by simp; omega)
 rw [if_neg k2]
 by_cases k3 : t.kind = 3
 ·rw [if_pos k3]
  exact Bnd.point ht.lton ht.ltos fun x hx => Bnd.point ht.lren ht.lres fun y hy => Bnd.cap (by decide) fun z hz => all _ (by simp) (by simp; omega)
 rw [if_neg k3]
 by_cases k4 : t.kind = 4
 ·rw [if_pos k4]
  intro l hl
  simp only [lairP] at hl
  exact ((ctL_bnd ht.c).mono (by omega)) l (by simpa using hl)
 rw [if_neg k4]
 by_cases k5 : t.kind = 5
 ·rw [if_pos k5]
  intro l hl
  exact ((stL_bnd ht.s).mono (by omega)) l (by simpa [llightP] using hl)
 rw [if_neg k5]
 by_cases k6 : t.kind = 6
 ·rw [if_pos k6]
  refine Bnd.cap (by decide) fun x hx l hl => ?_
  obtain ⟨y,hy,e⟩ := Option.bind_eq_some_iff.1 hl
  cases e
  have hc := ctL_bnd ht.c y hy
  have := ctL_len hy
  refine all _ (by simp; omega) (fun z hz => ?_) _ rfl
  simp only [List.mem_append,List.mem_cons,List.not_mem_nil,or_false] at hz
  rcases hz with (rfl | rfl) | hz
  ·omega
  ·omega
  ·have := hc.2 z hz; omega
 rw [if_neg k6]
 by_cases k7 : t.kind = 7
 ·rw [if_pos k7]
  intro l hl
  obtain ⟨y,hy,e⟩ := Option.bind_eq_some_iff.1 hl
  cases e
  have hc := stL_bnd ht.s y hy
  have := stL_len hy
  refine all _ (by simp; omega) (fun z hz => ?_) _ rfl
  simp only [List.mem_append,List.mem_cons,List.not_mem_nil,or_false] at hz
  rcases hz with rfl | hz
  ·omega
  ·have := hc.2 z hz; omega
 rw [if_neg k7]
 by_cases k8 : t.kind = 8
 ·rw [if_pos k8]
  exact all _ (by simp) (by simp; omega)
 rw [if_neg k8]
 by_cases k9 : t.kind = 9
 ·rw [if_pos k9]
  exact Bnd.cap (by decide) fun x hx => all _ (by simp) (by simp; omega)
 rw [if_neg k9]
 by_cases k10 : t.kind = 10
 ·rw [if_pos k10]
  exact all _ (by simp) (by simp; omega)
 rw [if_neg k10]
 by_cases k11 : t.kind = 11
 ·rw [if_pos k11]
  exact Bnd.cap (by decide) fun x hx => all _ (by simp) (by simp; omega)
 rw [if_neg k11]
 by_cases k12 : t.kind = 12
 ·rw [if_pos k12]
  exact Bnd.cap (by decide) fun x hx => all _ (by simp) (by simp; omega)
 rw [if_neg k12]
 by_cases k13 : t.kind = 13
 ·rw [if_pos k13]
  exact all _ (by simp) (by simp; omega)
 rw [if_neg k13]
 by_cases k14 : t.kind = 14
 ·rw [if_pos k14]
  exact Bnd.cap (by decide) fun x hx => all _ (by simp) (by simp; omega)
 rw [if_neg k14]
 by_cases k15 : t.kind = 15
 ·rw [if_pos k15]
  exact Bnd.cap (by decide) fun x hx => all _ (by simp) (by simp; omega)
 rw [if_neg k15]
 by_cases k16 : t.kind = 16
 ·rw [if_pos k16]
  exact htl
 rw [if_neg k16]
 intro l hl; cases hl
theorem joinW_len {B : Nat} {o : Option (List Tx)} {l : List Tx} {s : Tx} (h : Bnd B o) (ho : o = some l) (hs : s.length ≤ 6) : (joinW (s :: l)).length ≤ 8 * (B + 1) + 6 := by
 obtain ⟨h1,h2⟩ := h l ho
 unfold joinW
 rw [Lib.join_cons,List.length_append]
 have := joinTail_len B l h2
 have := Nat.mul_le_mul_right (B + 1) h1
 omega
end Go.Proofs
namespace Go.Proofs
open Pk
set_option maxRecDepth 100000
attribute [local simp] beq_dec bne_dec
theorem Sl.mod' {w w' : World} {s : Nat} {v : Value} {n : Nat} {cs : List Value} {S : Nat → Prop} (h : Sl w s v n cs) (he : Mod S w w') (hs : cs ≠ [] → ¬ S (slB v)) : Sl w' s v n cs :=
 ⟨h.len,h.val,fun j u hj => he.cell (h.at_ j u hj) (hs (fun e => by rw [e] at hj; cases hj))⟩
def lineP (rd : Tx → Option (Int × (Trn → List Tx → Option (Trn × List Tx)))) (tl : Trn → Option (List Tx)) (t : Trn) : Option Tx := match findW t with
 | none => none
 | some p => match layK tl t with
  | none => none
  | some l => match turnP rd (joinW (p.1 :: l)) with
   | none => none
   | some t' => if sameT t' t = true then some (joinW (p.1 :: l)) else none
def LineE (w w' : World) (o : Option Tx) (e : Ending) : Prop := Ext w w' ∧ match o with
 | none => e = .returned (.tuple #[tv [],i64 370])
 | some s => e = .returned (.tuple #[tv s,i64 0])
theorem line1_c {w : World} {b : Nat} {x : Value} (hb : Var w b x) : FN Tryz.prog 22 [ptr b] w fun e w' => (∃ v, e = .returned v) ∧ w' = w.setCell ⟨b, 0, none⟩ (tv []) := by
 refine FN_enter Tryz.func22 rfl rfl (by kernel_rfl) ?_
 simp [hb.cell,hb.thaw]
def NoHit (t : Trn) (L : List (Tx × List Value)) (idxs : List Nat) : Prop := ∀ i ∈ idxs,∀ s k fl fr,L[i]? = some (s,[i64 k,fl,fr]) → hitW t (s,k) = false
theorem NoHit.none {t : Trn} {f1 f2 : Nat} {idxs : List Nat} (h : NoHit t (lnL f1 f2) idxs) (hp : idxs.Perm (List.range (lnL f1 f2).length)) : findW t = none := by
 refine List.find?_eq_none.2 fun x hx hh => ?_
 have : ∀ x ∈ lnW, ∃ (i : Nat) (fl fr : Value), (lnL f1 f2)[i]? = some (x.1, [i64 x.2, fl, fr]) := by
  intro x hx
  simp only [lnW,List.mem_cons,List.not_mem_nil,or_false] at hx
  rcases hx with rfl | rfl | rfl | rfl | rfl | rfl | rfl | rfl | rfl | rfl | rfl | rfl | rfl | rfl | rfl | rfl | rfl
  ·exact ⟨0,_,_,rfl⟩
  ·exact ⟨1,_,_,rfl⟩
  ·exact ⟨2,_,_,rfl⟩
  ·exact ⟨3,_,_,rfl⟩
  ·exact ⟨4,_,_,rfl⟩
  ·exact ⟨5,_,_,rfl⟩
  ·exact ⟨6,_,_,rfl⟩
  ·exact ⟨7,_,_,rfl⟩
  ·exact ⟨8,_,_,rfl⟩
  ·exact ⟨9,_,_,rfl⟩
  ·exact ⟨10,_,_,rfl⟩
  ·exact ⟨11,_,_,rfl⟩
  ·exact ⟨12,_,_,rfl⟩
  ·exact ⟨13,_,_,rfl⟩
  ·exact ⟨14,_,_,rfl⟩
  ·exact ⟨15,_,_,rfl⟩
  ·exact ⟨16,_,_,rfl⟩
 obtain ⟨i,fl,fr,hi⟩ := this x hx
 have := h i (hp.mem_iff.2 (List.mem_range.2 (List.getElem?_eq_some_iff.1 hi).1)) _ _ _ _ hi
 rw [this] at hh
 cases hh
theorem mlnL {f1 f2 i : Nat} {p : Tx × List Value} (h : (lnL f1 f2)[i]? = some p) : p ∈ lnL f1 f2 := List.mem_of_getElem? h
set_option maxHeartbeats 8000000 in
theorem line_c (rd : Tx → Option (Int × (Trn → List Tx → Option (Trn × List Tx)))) (tl : Trn → Option (List Tx)) {t : Trn} {vp vk : Value} {w : World} (ht : t.Ok) (hp : SlB w 1 vp t.pay.length (t.pay.map encB)) (hk : SlB w 1 vk t.keep.length (t.keep.map Value.bool)) (hpl : t.pay.length ≤ 300) (hkl : t.keep.length ≤ 300) (hG : Gl w) (h8 : 8 ≤ w.heap.size)
  (htell : t.kind = 16 → LayF tl t vp vk (fnT 122)) (htl : Bnd 5000 (tl t)) (hrd : ∀ f1 f2 s0,(s0 = tellT → t.kind = 16) → LookOk rd f1 f2 s0) (hok : ∀ s t',turnP rd s = some t' → t'.Ok) : FN Tryz.prog 10 [trV t vp vk] w fun e w' => LineE w w' (lineP rd tl t) e := by
 refine FN_enter Tryz.func10 rfl rfl (by kernel_rfl) ?_
 have hE1 : Ext w (((w.alloc (.cells (trC t vp vk).toArray 45)).alloc (.cells #[tv []] 9)).alloc (.cells #[i64 0] 48)) := (((Ext.refl w).alloc _).alloc _).alloc _
 have x1 : Blk (((w.alloc (.cells (trC t vp vk).toArray 45)).alloc (.cells #[tv []] 9)).alloc (.cells #[i64 0] 48)) w.heap.size (trC t vp vk) := (Blk.new w _ _).ext (((Ext.refl _).alloc _).alloc _)
 have s1 : Var (((w.alloc (.cells (trC t vp vk).toArray 45)).alloc (.cells #[tv []] 9)).alloc (.cells #[i64 0] 48)) (w.heap.size + 1) (tv []) := by
  have := (Var.new (w.alloc (.cells (trC t vp vk).toArray 45)) (tv []) 9).ext ((Ext.refl _).alloc (.cells #[i64 0] 48))
  simpa using this
 have q1 : Var (((w.alloc (.cells (trC t vp vk).toArray 45)).alloc (.cells #[tv []] 9)).alloc (.cells #[i64 0] 48)) (w.heap.size + 1 + 1) (i64 0) := by
  have := Var.new ((w.alloc (.cells (trC t vp vk).toArray 45)).alloc (.cells #[tv []] 9)) (i64 0) 48
  simpa using this
 have hz1 : (((w.alloc (.cells (trC t vp vk).toArray 45)).alloc (.cells #[tv []] 9)).alloc (.cells #[i64 0] 48)).heap.size = w.heap.size + 3 := by simp
 simp [-loadVar,-storeVar]
 obtain ⟨a,ha⟩ : ∃ a,w.heap.size = a := ⟨_,rfl⟩
 rw [ha] at x1 s1 q1 h8 hz1 ⊢
 generalize (((w.alloc (.cells (trC t vp vk).toArray 45)).alloc (.cells #[tv []] 9)).alloc (.cells #[i64 0] 48)) = w1 at *
 have M01 : Mod (fun k => a ≤ k) w w1 := hE1.mod
 have pan : ∀ (W : World) (ρ : Env) (y : Value), ρ 2 = ptr (a + 1) → ρ 3 = ptr (a + 1 + 1) → Var W (a + 1) y → Var W (a + 1 + 1) (i64 0) → Mod (fun k => a ≤ k) w W → lineP rd tl t = none →
   LV Tryz.prog #[ResultVar.cell 2 9,ResultVar.cell 3 48] (fun e w' => LineE w w' (lineP rd tl t) e) ρ [{ target := .fn (.func 21) #[],args := #[ptr (a + 1 + 1),.func (.func 22) #[] #[ptr (a + 1)]] }] (.panicking (panE 370)) W := by
  intro W ρ y e2 e3 sW cW hM hN
  refine sLV_panic cW ?_
  rw [CV_func]
  have hM1 : Mod (fun k => k = a + 1 + 1) W (W.setCell ⟨a + 1 + 1,0,.none⟩ (i64 370)) := (Mod.refl _ _).setC _ _
  have sW1 := sW.mod hM1 (by omega)
  have cW1 := cW.set (i64 370)
  generalize (W.setCell ⟨a + 1 + 1,0,.none⟩ (i64 370)) = W1 at *
  refine FN.mono (line1_c sW1) ?_
  rintro e3' W2 ⟨⟨u,rfl⟩,rfl⟩
  refine ⟨⟨u,rfl⟩,?_⟩
  have hM2 : Mod (fun k => k = a + 1) W1 (W1.setCell ⟨a + 1,0,none⟩ (tv [])) := (Mod.refl _ _).setC _ _
  have s2 := sW1.set (tv [])
  have c2 := cW1.mod hM2 (by omega)
  simp [e2,e3,s2.cell,c2.cell]
  refine ⟨((hM.trans (hM1.weaken fun k hk => by omega)).trans (hM2.weaken fun k hk => by omega)).ext fun _ h => by omega,?_⟩
  rw [hN]
 refine FN.mono (slines_c w1) ?_
 rintro _ w2 ⟨r,f1,f2,rfl,m2,vf1,vf2,gr,gf1,gf2,E2⟩
 obtain ⟨o,hr,hi⟩ := m2.range (P := Tryz.prog) tln
 have z2 := E2.size
 simp [-loadVar,-storeVar,hr]
 have he := (Ext.refl w2).alloc o
 obtain ⟨b,hb⟩ : ∃ b,b = w2.heap.size := ⟨_,rfl⟩
 rw [← hb] at hi ⊢
 have E3 := E2.trans he
 have z3 := E3.size
 generalize (w2.alloc o) = w3 at *
 refine WC_loop (fun k ρ ds w' => ∃ (idxs : List Nat),k + idxs.length = (lnL f1 f2).length ∧ ρ 1 = ptr a ∧ ρ 2 = ptr (a + 1) ∧ ρ 3 = ptr (a + 1 + 1) ∧ ρ 10 = ptr b ∧ ds = [{ target := .fn (.func 21) #[],args := #[ptr (a + 1 + 1),.func (.func 22) #[] #[ptr (a + 1)]] }] ∧ MIter tv agL w' b r (lnL f1 f2) idxs ∧ Mod (fun k => k = b) w3 w' ∧ NoHit t (lnL f1 f2) idxs) (lnL f1 f2).length ⟨[],by simp,rfl,rfl,rfl,rfl,rfl,hi,Mod.refl _ _,fun i hi => by cases hi⟩ ?_
 rintro k ρ ds w4 ⟨idxs,hkn,e1,e2,e3,e10,rfl,hI,M4,hno⟩
 rcases hI.next (P := Tryz.prog) 0 with ⟨hperm, hrun⟩ | ⟨i, p, w5, hpi, hni, hrun, hI5, hM5, hent, hs5⟩
 ·have M14 : Mod (fun k => a ≤ k) w w4 := (M01.trans E3.mod).trans (M4.weaken fun k hk => by omega)
  have sW := (s1.ext E3).mod M4 (by omega)
  have cW := (q1.ext E3).mod M4 (by omega)
  simp [-loadVar,-storeVar,svS,e10,hrun,e2,e3,sW.cell,sW.thaw,cW.cell,cW.thaw,cell_setCell]
  have S1 : Mod (fun k => k = a + 1) w4 (w4.setCell ⟨a + 1,0,none⟩ (tv [])) := (Mod.refl _ _).setC _ _
  have cW1 := (cW.mod S1 (by omega)).set (i64 370)
  have S2 : Mod (fun k => k = a + 1 + 1) (w4.setCell ⟨a + 1,0,none⟩ (tv [])) ((w4.setCell ⟨a + 1,0,none⟩ (tv [])).setCell ⟨a + 1 + 1,0,none⟩ (i64 370)) := (Mod.refl _ _).setC _ _
  have sW1 := (sW.set (tv [])).mod S2 (by omega)
  have MF := (M14.trans (S1.weaken (S' := fun k => a ≤ k) fun k hk => by omega)).trans (S2.weaken fun k hk => by omega)
  generalize ((w4.setCell ⟨a + 1,0,none⟩ (tv [])).setCell ⟨a + 1 + 1,0,none⟩ (i64 370)) = W2 at *
  refine sLV_caught ?_
  simp [e2,e3,sW1.cell,cW1.cell]
  refine ⟨MF.ext fun _ h => by omega,?_⟩
  rw [show lineP rd tl t = none by unfold lineP; rw [hno.none hperm]]
 ·obtain ⟨kp,fl,fr,hp2,hpw,ho1,ho2,hL⟩ := lnL_all tl (f1 := f1) (f2 := f2) (vp := vp) (vk := vk) ht htell p (mlnL hpi)
  obtain ⟨s,row⟩ := p
  simp only at hp2 hpw
  subst hp2
  have hst1 := fun (p : Addr) (W : World) => run_store_sto Tryz.prog W p fl ho1
  have hst2 := fun (p : Addr) (W : World) => run_store_sto Tryz.prog W p fr ho2
  simp only [agL] at hent
  have M5 : Mod (fun k => k = b) w3 w5 := M4.trans hM5
  have z5 := M5.size
  have hb5 := hI5.bound
  simp only [List.length_append,List.length_singleton] at hb5
  simp [-loadVar,-storeVar,lvS,svS,e10,hrun,hent,hst1,hst2]
  have E6 : Ext w5 (w5.alloc (.cells #[i64 kp,fl,fr] 78)) := (Ext.refl _).alloc _
  have l6 : Blk (w5.alloc (.cells #[i64 kp,fl,fr] 78)) w5.heap.size [i64 kp,fl,fr] := Blk.new w5 _ _
  obtain ⟨j,hj⟩ : ∃ j,w5.heap.size = j := ⟨_,rfl⟩
  rw [hj] at l6 ⊢
  generalize (w5.alloc (.cells #[i64 kp,fl,fr] 78)) = w6 at *
  have I6 := hI5.mod (S := fun _ => False) E6.mod _root_.id _root_.id
  have M6 := M5.trans E6.mod
  have M16 : Mod (fun k => a ≤ k) w w6 := (M01.trans E3.mod).trans (M6.weaken fun k hk => by omega)
  have x6 := (x1.ext E3).mod M6 (by omega)
  have s6 := (s1.ext E3).mod M6 (by omega)
  have q6 := (q1.ext E3).mod M6 (by omega)
  have nohit : hitW t (s, kp) = false → NoHit t (lnL f1 f2) (idxs ++ [i]) := by
   intro h j hj s' k' fl' fr' e
   rcases List.mem_append.1 hj with hj | hj
   ·exact hno j hj s' k' fl' fr' e
   ·simp at hj
    subst hj
    rw [hpi] at e
    cases e
    exact h
  refine with_tail (T := ∀ (σ : Env),(σ 1 = ptr a ∧ σ 2 = ptr (a + 1) ∧ σ 3 = ptr (a + 1 + 1) ∧ σ 4 = tv s ∧ σ 5 = ptr j) ∧ kp = t.kind ∧ hitW t (s,kp) = true → WCt Tryz.prog ?n ?r ?c ?Q Tok.mk σ ?ds w6) (fun tail => ?br) ?jn
  case br =>
   by_cases hkk : kp = t.kind
   ·by_cases h2 : t.kind = 2
    ·by_cases hs : s = openT
     ·have hq : (s == [111,112,101,110]) = true := by rw [hs]; rfl
      by_cases hy : t.yes = true
      ·simp [-loadVar,-storeVar,lvS,e1,x6.cell 0 _ rfl,x6.cell 4 _ rfl,hkk,h2,hq,hy]
       refine tail _ ⟨⟨?_,?_,?_,?_,?_⟩,hkk,by simp [hitW,hkk,hs,hy]⟩
       all_goals simp [e1,e2,e3]
      ·simp [-loadVar,-storeVar,lvS,e1,x6.cell 0 _ rfl,x6.cell 4 _ rfl,hkk,h2,hq,hy]
       exact ⟨k - 1,by omega,idxs ++ [i],by simp only [List.length_append,List.length_singleton]; omega,e2,e3,e10,I6,M6,nohit (by simp [hitW,hs,hy,h2])⟩
     ·have hq : (s == [111,112,101,110]) = false := by simpa using hs
      by_cases hy : t.yes = true
      ·simp [-loadVar,-storeVar,lvS,e1,x6.cell 0 _ rfl,x6.cell 4 _ rfl,hkk,h2,hq,hy]
       exact ⟨k - 1,by omega,idxs ++ [i],by simp only [List.length_append,List.length_singleton]; omega,e2,e3,e10,I6,M6,nohit (by simp [hitW,hs,hy,h2])⟩
      ·simp [-loadVar,-storeVar,lvS,e1,x6.cell 0 _ rfl,x6.cell 4 _ rfl,hkk,h2,hq,hy]
       refine tail _ ⟨⟨?_,?_,?_,?_,?_⟩,hkk,by simp [hitW,hkk,hs,hy]⟩
       all_goals simp [e1,e2,e3]
    ·simp [-loadVar,-storeVar,lvS,e1,x6.cell 0 _ rfl,hkk,h2]
     refine tail _ ⟨⟨?_,?_,?_,?_,?_⟩,hkk,by simp [hitW,hkk,h2]⟩
     all_goals simp [e1,e2,e3]
   ·simp [-loadVar,-storeVar,lvS,e1,x6.cell 0 _ rfl,hkk]
    exact ⟨k - 1,by omega,idxs ++ [i],by simp only [List.length_append,List.length_singleton]; omega,e2,e3,e10,I6,M6,nohit (by simp [hitW,hkk])⟩
  case jn =>
   rintro σ ⟨⟨e1,e2,e3,e4,e5⟩,rfl,hh⟩
   have hfw := findW_hit hpw hh
   have hlF : LayF tl t vp vk fl := hL rfl
   have hsp := lnW_sp _ hpw
   simp only at hsp
   refine WC_drawC 6 (.F 0 <| .F 3 <| .F 4 <| .F 5 <| .C 1 <| .C 2 <| .Z) (fun _ => false) rfl (by kernel_rfl) fun W hW => ?_
   have WE : Ext w6 W := hW ▸ Ext.drew _
   have xW := x6.ext WE
   have lW := l6.ext WE
   simp [-loadVar,-storeVar,lvS,e1,e4,e5,lW.cell 1 _ rfl,lv_turn xW,xW.cell 0 _ rfl]
   have EB : Ext W (W.alloc (.cells #[tv s] 9)) := (Ext.refl _).alloc _
   have sB : (W.alloc (.cells #[tv s] 9)).ownsRow W.heap.size 9 1 (.slice (some ⟨W.heap.size,0,none⟩) 1 1) 1 [tv s] := own_made W [tv s] 9 1 1 rfl (by omega) _ (Nat.le_refl _)
   refine KR_ext EB ?_
   have E67 := WE.trans EB
   have zW := WE.size
   have zB := EB.size
   generalize (W.alloc (.cells #[tv s] 9)) = W7 at *
   simp
   refine FN.mono (slist_c W7 _) ?_
   rintro _ w7 ⟨rfl,hw7⟩
   rw [hw7]
   simp
   refine KR_same ?_
   have M17 : Mod (fun k => a ≤ k) w W7 := M16.trans E67.mod
   have out : ∀ {v : Value} {cs : List Value}, SlB w 1 v cs.length cs → cs ≠ [] → ¬ a ≤ slB v := fun h hn => by
    have := h.lt (List.length_pos_iff.2 hn)
    omega
   have hp7 := hp.mod M17 (fun hn => by have := hp.lt (List.length_pos_iff.2 hn); omega)
   have hk7 := hk.mod M17 (fun hn => by have := hk.lt (List.length_pos_iff.2 hn); omega)
   have hG7 := hG.mod M17 fun k hk => by omega
   simp
   refine CV.mono (hlF hp7 hk7 (by omega) (by omega) hG7) ?_
   rintro e8 W8 ⟨E8,h8'⟩
   have M18 := M17.trans (E8.mod (S := fun k => a ≤ k))
   have s8 := (s6.ext E67).ext E8
   have q8 := (q6.ext E67).ext E8
   have x8 := (x6.ext E67).ext E8
   rcases hlk : layK tl t with _ | l
   ·rw [hlk] at h8'
    obtain rfl : e8 = _ := h8'
    simp
    exact pan _ _ _ (by simp [e2]) (by simp [e3]) s8 q8 M18 (by unfold lineP; rw [hfw]; simp only [hlk])
   rw [hlk] at h8'
   obtain ⟨v8,rfl,sl8⟩ := h8'
   have hbnd := layK_bnd tl ht (B := 5000) (by omega) htl
   have hl8 := (hbnd l hlk).1
   have hjl := joinW_len hbnd hlk hsp.2
   have z7 := E67.size
   have z8 := E8.size
   have z6 := M6.size
   obtain ⟨v9,w9,hr9,ho9,hM9,-⟩ := append_own (P := Tryz.prog) (t := 60) (ty := 60) (e := 9) (s := 1) (by simp) (by simp) (by kernel_rfl) (own_ext sB E8) sl8 (fun u hu => by obtain ⟨z,-,rfl⟩ := List.mem_map.1 hu; rfl) (by omega) (by omega)
   simp [hr9]
   have hn9 : ∀ k,(slN (.slice (some ⟨W.heap.size,0,none⟩) 1 1) = false ∧ k = slB (.slice (some ⟨W.heap.size,0,none⟩) 1 1)) → k = W.heap.size := fun k hk => by simpa [slB] using hk.2
   have s9 := s8.mod hM9 (fun h => by have := hn9 _ h; omega)
   have q9 := q8.mod hM9 (fun h => by have := hn9 _ h; omega)
   have x9 := x8.mod hM9 (fun h => by have := hn9 _ h; omega)
   have M19 := M18.trans (hM9.weaken (S' := fun k => a ≤ k) fun k hk => by have := hn9 _ hk; omega)
   have sl9 := sl_of_own ho9
   obtain ⟨bk,o9,c9,rfl,hc9⟩ := sl9.val.resolve_left (by rintro ⟨c,h,h0⟩; omega)
   have hj := Tryz.strings_Join bk o9 c9 ((s :: l).map fun x => (⟨x.toArray⟩ : ByteArray)) ⟨#[32]⟩ w9 (fun j x hx => by
    rw [List.getElem?_map] at hx
    obtain ⟨y,hy,rfl⟩ := Option.map_eq_some_iff.1 hx
    refine sl9.at_ j _ ?_
    rw [show [tv s] ++ l.map tv = (s :: l).map tv from rfl,List.getElem?_map,hy]; rfl) (own_lt ho9 rfl) (by simp; omega) (by simp; omega) (by
    rw [show ((s :: l).map fun x => (⟨x.toArray⟩ : ByteArray)).map (·.data.toList) = s :: l by simp [List.map_map,Function.comp_def]]
    show (joinW (s :: l)).length ≤ _
    omega)
   rw [show ((s :: l).map fun x => (⟨x.toArray⟩ : ByteArray)).map (·.data.toList) = s :: l by simp [List.map_map,Function.comp_def],show ((s :: l).map fun x => (⟨x.toArray⟩ : ByteArray)).length = 1 + l.length by simp; omega,show Lib.join (s :: l) (⟨#[32]⟩ : ByteArray).data.toList = joinW (s :: l) from rfl] at hj
   refine FN.mono (FN_of_calls Tryz.func24 rfl rfl hj) ?_
   rintro _ w10 ⟨rfl,b10⟩
   have E10 := ext_below b10
   have s10 := s9.ext E10
   have q10 := q9.ext E10
   have x10 := x9.ext E10
   simp [e2,s10.cell,s10.thaw,cell_setCell]
   have S11 : Mod (fun k => k = a + 1) w10 (w10.setCell ⟨a + 1,0,none⟩ (tv (joinW (s :: l)))) := (Mod.refl _ _).setC _ _
   have s11 := s10.set (tv (joinW (s :: l)))
   have q11 := q10.mod S11 (by omega)
   have x11 := x10.mod S11 (by omega)
   have M111 := (M19.trans (E10.mod (S := fun k => a ≤ k))).trans (S11.weaken (S' := fun k => a ≤ k) fun k hk => by omega)
   have hw0 := joinW_head s l hsp.1
   have hzz : 8 ≤ (w10.setCell ⟨a + 1,0,none⟩ (tv (joinW (s :: l)))).heap.size := by have := M111.size; omega
   refine FN.mono (turn_c rd (joinW (s :: l)) (by omega) (hG.mod M111 fun k hk => by omega) hzz (fun f1 f2 s0 l0 h0 => hrd f1 f2 s0 fun hs0 => by
    obtain ⟨l',hl'⟩ := hw0
    rw [hl'] at h0
    cases h0
    exact lnW_tell _ hpw hs0)) ?_
   generalize (w10.setCell ⟨a + 1,0,none⟩ (tv (joinW (s :: l)))) = w11 at *
   rintro e12 w12 ⟨E12,h12⟩
   have s12 := s11.ext E12
   have q12 := q11.ext E12
   have x12 := x11.ext E12
   have M112 := M111.trans (E12.mod (S := fun k => a ≤ k))
   have hlp : lineP rd tl t = match turnP rd (joinW (s :: l)) with
     | none => none
     | some t' => if sameT t' t = true then some (joinW (s :: l)) else none := by unfold lineP; rw [hfw]; simp only [hlk]
   have oz : Blk (w12.alloc (.cells #[i64 0,u32 0,u32 0,u64 0,.bool false,u8 0,u32 0,u32 0,u32 0,u32 0,u32 0,u32 0,u64 0,u8 0,.slice none 0 0,u32 0,u32 0,u64 0,u64 0,u64 0,u32 0,u32 0,u64 0,u64 0,u32 0,u32 0,u32 0,.bool false,i64 0,u32 0,u32 0,u64 0,u32 0,i64 0,i64 0,u64 0,u64 0,u32 0,u32 0,.bool false,u64 0,u64 0,u8 0,.slice none 0 0] 45)) w12.heap.size (trC trn0 nilS nilS) := Blk.new w12 [i64 0,u32 0,u32 0,u64 0,.bool false,u8 0,u32 0,u32 0,u32 0,u32 0,u32 0,u32 0,u64 0,u8 0,.slice none 0 0,u32 0,u32 0,u64 0,u64 0,u64 0,u32 0,u32 0,u64 0,u64 0,u32 0,u32 0,u32 0,.bool false,i64 0,u32 0,u32 0,u64 0,u32 0,i64 0,i64 0,u64 0,u64 0,u32 0,u32 0,.bool false,u64 0,u64 0,u8 0,.slice none 0 0] 45
   have Ez : Ext w12 (w12.alloc (.cells #[i64 0,u32 0,u32 0,u64 0,.bool false,u8 0,u32 0,u32 0,u32 0,u32 0,u32 0,u32 0,u64 0,u8 0,.slice none 0 0,u32 0,u32 0,u64 0,u64 0,u64 0,u32 0,u32 0,u64 0,u64 0,u32 0,u32 0,u32 0,.bool false,i64 0,u32 0,u32 0,u64 0,u32 0,i64 0,i64 0,u64 0,u64 0,u32 0,u32 0,.bool false,u64 0,u64 0,u8 0,.slice none 0 0] 45)) := (Ext.refl _).alloc _
   have zz := Ez.size
   have z12 := M112.size
   obtain ⟨c,hc⟩ : ∃ c,w12.heap.size = c := ⟨_,rfl⟩
   have s13 := s12.ext Ez
   have q13 := q12.ext Ez
   have x13 := x12.ext Ez
   have a12 := q12.lt
   rcases htp : turnP rd (joinW (s :: l)) with _ | t'
   ·rw [htp] at h12 hlp
    obtain rfl : e12 = _ := h12
    have stz := sv_turn oz trn0 nilS nilS rfl rfl
    simp [-loadVar,-storeVar]
    rw [hc] at oz stz ⊢
    generalize (w12.alloc (.cells #[i64 0,u32 0,u32 0,u64 0,.bool false,u8 0,u32 0,u32 0,u32 0,u32 0,u32 0,u32 0,u64 0,u8 0,.slice none 0 0,u32 0,u32 0,u64 0,u64 0,u64 0,u32 0,u32 0,u64 0,u64 0,u32 0,u32 0,u32 0,.bool false,i64 0,u32 0,u32 0,u64 0,u32 0,i64 0,i64 0,u64 0,u64 0,u32 0,u32 0,.bool false,u64 0,u64 0,u8 0,.slice none 0 0] 45)) = w13 at *
    simp [-loadVar,-storeVar,stz]
    have S14 : Mod (fun k => k = c) w13 (putC w13 c 0 (trC trn0 nilS nilS)) := putC_mod _ _ (Mod.refl _ _)
    have s14 := s13.mod S14 (by omega)
    have q14 := q13.mod S14 (by omega)
    have M14 := (M112.trans (Ez.mod (S := fun k => a ≤ k))).trans (S14.weaken (S' := fun k => a ≤ k) fun k hk => by omega)
    generalize (putC w13 c 0 (trC trn0 nilS nilS)) = w14 at *
    refine FN.mono (smust_f w14) ?_
    rintro _ w15 ⟨rfl,rfl⟩
    simp
    exact pan _ _ _ (by simp [e2]) (by simp [e3]) s14 q14 M14 hlp
   rw [htp] at h12 hlp
   obtain ⟨vp',vk',rfl,sp',gp',sk',gk'⟩ := h12
   have o1' : oneV vp' = true := by obtain ⟨_,_,rfl⟩ := sp'.isSlice; rfl
   have o2' : oneV vk' = true := by obtain ⟨_,_,rfl⟩ := sk'.isSlice; rfl
   have stz := sv_turn oz t' vp' vk' o1' o2'
   simp [-loadVar,-storeVar]
   rw [hc] at oz stz ⊢
   have sp13 := sp'.ext Ez
   have sk13 := sk'.ext Ez
   generalize (w12.alloc (.cells #[i64 0,u32 0,u32 0,u64 0,.bool false,u8 0,u32 0,u32 0,u32 0,u32 0,u32 0,u32 0,u64 0,u8 0,.slice none 0 0,u32 0,u32 0,u64 0,u64 0,u64 0,u32 0,u32 0,u64 0,u64 0,u32 0,u32 0,u32 0,.bool false,i64 0,u32 0,u32 0,u64 0,u32 0,i64 0,i64 0,u64 0,u64 0,u32 0,u32 0,.bool false,u64 0,u64 0,u8 0,.slice none 0 0] 45)) = w13 at *
   simp [-loadVar,-storeVar,stz]
   have S14 : Mod (fun k => k = c) w13 (putC w13 c 0 (trC t' vp' vk')) := putC_mod _ _ (Mod.refl _ _)
   have s14 := s13.mod S14 (by omega)
   have q14 := q13.mod S14 (by omega)
   have x14 := x13.mod S14 (by omega)
   have o14 : Blk (putC w13 c 0 (trC t' vp' vk')) c (trC t' vp' vk') := Blk.put oz rfl
   have M14 := (M112.trans (Ez.mod (S := fun k => a ≤ k))).trans (S14.weaken (S' := fun k => a ≤ k) fun k hk => by omega)
   have hp14 := hp.mod M14 (fun hn => by have := hp.lt (List.length_pos_iff.2 hn); omega)
   have hk14 := hk.mod M14 (fun hn => by have := hk.lt (List.length_pos_iff.2 hn); omega)
   have nosl : ∀ {v : Value} {n : Nat} {cs : List Value}, Sl w12 1 v n cs → cs ≠ [] → ¬ slB v = c := fun h hn he => by
    have := h.toB.lt (List.length_pos_iff.2 hn)
    omega
   have sp14 := Sl.mod' sp13 S14 (fun hn => nosl sp' hn)
   have sk14 := Sl.mod' sk13 S14 (fun hn => nosl sk' hn)
   generalize (putC w13 c 0 (trC t' vp' vk')) = w14 at *
   simp [-loadVar,-storeVar,e1,lv_turn o14,lv_turn x14]
   refine FN.mono (ssame_c sp14.toB sk14.toB hp14 hk14 (by omega) (by omega) (hok _ _ htp).fate ht.fate) ?_
   rintro _ w15 ⟨rfl,E15⟩
   have s15 := s14.ext E15
   have q15 := q14.ext E15
   have M15 := M14.trans (E15.mod (S := fun k => a ≤ k))
   simp only at hlp
   by_cases hsm : sameT t' t = true
   ·rw [if_pos hsm] at hlp
    simp [hsm]
    refine FN.mono (smust_t w15) ?_
    rintro _ w16 ⟨⟨u,rfl⟩,rfl⟩
    simp [e2,e3,s15.cell,s15.thaw,q15.cell,q15.thaw,cell_setCell]
    have S1 : Mod (fun k => k = a + 1) w16 (w16.setCell ⟨a + 1,0,none⟩ (tv (joinW (s :: l)))) := (Mod.refl _ _).setC _ _
    have q16 := (q15.mod S1 (by omega)).set (i64 0)
    have S2 : Mod (fun k => k = a + 1 + 1) (w16.setCell ⟨a + 1,0,none⟩ (tv (joinW (s :: l)))) ((w16.setCell ⟨a + 1,0,none⟩ (tv (joinW (s :: l)))).setCell ⟨a + 1 + 1,0,none⟩ (i64 0)) := (Mod.refl _ _).setC _ _
    have s16 := (s15.set (tv (joinW (s :: l)))).mod S2 (by omega)
    have MF := (M15.trans (S1.weaken (S' := fun k => a ≤ k) fun k hk => by omega)).trans (S2.weaken fun k hk => by omega)
    generalize ((w16.setCell ⟨a + 1,0,none⟩ (tv (joinW (s :: l)))).setCell ⟨a + 1 + 1,0,none⟩ (i64 0)) = W2 at *
    refine sLV_caught ?_
    simp [e2,e3,s16.cell,q16.cell]
    refine ⟨MF.ext fun _ h => by omega,?_⟩
    rw [hlp]
   ·rw [if_neg hsm] at hlp
    simp [hsm]
    refine FN.mono (smust_f w15) ?_
    rintro _ w16 ⟨rfl,rfl⟩
    simp
    exact pan _ _ _ (by simp [e2]) (by simp [e3]) s15 q15 M15 hlp
end Go.Proofs
namespace Go.Proofs
open Pk
set_option maxRecDepth 10000
def OkR (R : Trn → List Tx → Option (Trn × List Tx)) : Prop := ∀ t l t' l',t.Ok → R t l = some (t',l') → t'.Ok
theorem ctQ_ok {l r : List Tx} {c : Ctc} (h : ctQ l = some (c, r)) : c.Ok := by
 simp only [ctQ,Option.bind_eq_some_iff,Option.some.injEq,Prod.mk.injEq] at h
 obtain ⟨⟨a1,b1⟩,h1,⟨a2,b2⟩,h2,⟨a3,b3⟩,h3,⟨a4,b4⟩,h4,⟨a5,b5⟩,h5,rfl,-⟩ := h
 have := nodeQ_le h1
 have := nodeQ_le h2
 have := longQ_le h3
 have := longQ_le h4
 have := longQ_le h5
 exact ⟨by simp only [R32]; omega,by simp only [R32]; omega,by simp only [R64]; omega,by simp only [R64]; omega,by simp only [R64]; omega⟩
theorem stQ_ok {l r : List Tx} {c : Stp} (h : stQ l = some (c, r)) : c.Ok := by
 simp only [stQ,Option.bind_eq_some_iff,Option.some.injEq,Prod.mk.injEq] at h
 obtain ⟨⟨a1,b1⟩,h1,⟨a2,b2⟩,h2,⟨a3,b3⟩,h3,⟨a4,b4⟩,h4,rfl,-⟩ := h
 have := nodeQ_le h1
 have := nodeQ_le h2
 have := longQ_le h3
 have := longQ_le h4
 exact ⟨by simp only [R32]; omega,by simp only [R32]; omega,by simp only [R64]; omega,by simp only [R64]; omega⟩
theorem parseP_le {s : Tx} {n m : Nat} (h : parseP s = some (n, m)) : n ≤ 4294967295 ∧ m ≤ 4294967295 := by
 unfold parseP at h
 split at h
 ·unfold endP at h
  split at h
  ·cases h; omega
  ·split at h
   ·split at h
    ·cases h
    ·rename_i a b hq
     split at h
     ·cases h
     ·cases h
      unfold endQ at hq
      rcases hc : cutAt 46 (Lib.trimPrefix s ipnT) with _ | ⟨x, y⟩
      ·rw [hc] at hq; cases hq
      ·rw [hc] at hq
       simp only at hq
       rcases h1 : bndP x 4294967295 with _ | n'
       ·rw [h1] at hq; cases hq
       ·rcases h2 : bndP y 4294967295 with _ | m'
        ·rw [h1,h2] at hq; cases hq
        ·rw [h1,h2] at hq
         cases hq
         exact ⟨bndP_le h1,bndP_le h2⟩
   ·cases h
 ·cases h
theorem pointQ_le {l r : List Tx} {x : Nat × Nat} (h : pointQ l = some (x, r)) : x.1 ≤ 4294967295 ∧ x.2 ≤ 4294967295 := by
 cases l with
 | nil => cases h
 | cons s l =>
  simp only [pointQ,wordP] at h
  cases hp : parseP s with
  | none => rw [hp] at h; cases h
  | some y => rw [hp] at h; cases h; exact parseP_le hp
theorem okR_nodeR : OkR (nodeR) := by
 intro t l t' l' ht h
 simp only [nodeR,Option.bind_eq_some_iff,Option.some.injEq,Prod.mk.injEq] at h
 obtain ⟨⟨a1,b1⟩,h1,⟨a2,b2⟩,h2,rfl,rfl⟩ := h
 have := nodeQ_le h1
 have := longQ_le h2
 exact { ht with node := by simp only [R32]; omega,n := by simp only [R64]; omega }
theorem okR_openR_true : OkR (openR true) := by
 intro t l t' l' ht h
 simp only [openR,Option.bind_eq_some_iff,Option.some.injEq,Prod.mk.injEq] at h
 obtain ⟨⟨a1,b1⟩,h1,⟨a2,b2⟩,h2,rfl,rfl⟩ := h
 have := nodeQ_le h1
 have := nodeQ_le h2
 exact { ht with node := by simp only [R32]; omega,n := by simp only [R64]; omega }
theorem okR_openR_false : OkR (openR false) := by
 intro t l t' l' ht h
 simp only [openR,Option.bind_eq_some_iff,Option.some.injEq,Prod.mk.injEq] at h
 obtain ⟨⟨a1,b1⟩,h1,⟨a2,b2⟩,h2,rfl,rfl⟩ := h
 have := nodeQ_le h1
 have := nodeQ_le h2
 exact { ht with node := by simp only [R32]; omega,n := by simp only [R64]; omega }
theorem okR_sendR : OkR (sendR) := by
 intro t l t' l' ht h
 simp only [sendR,Option.bind_eq_some_iff,Option.some.injEq,Prod.mk.injEq] at h
 obtain ⟨⟨a1,b1⟩,h1,⟨a2,b2⟩,h2,⟨a3,b3⟩,h3,⟨a4,b4⟩,h4,⟨a5,b5⟩,h5,⟨a6,b6⟩,h6,⟨a7,b7⟩,h7,⟨a8,b8⟩,h8,rfl,rfl⟩ := h
 have := nodeQ_le h1
 have := nodeQ_le h2
 have := pointQ_le h3
 have := nodeQ_le h4
 have := pointQ_le h5
 have := longQ_le h6
 have := smallQ_le h7
 exact { ht with node := by simp only [R32]; omega,lsvc := by simp only [R32]; omega,lton := by simp only [R32]; omega,ltos := by simp only [R32]; omega,lflg := by simp only [R32]; omega,lren := by simp only [R32]; omega,lres := by simp only [R32]; omega,life := by simp only [R64]; omega,lim := by simp only; omega }
theorem okR_memberR : OkR (memberR) := by
 intro t l t' l' ht h
 simp only [memberR,Option.bind_eq_some_iff,Option.some.injEq,Prod.mk.injEq] at h
 obtain ⟨⟨a1,b1⟩,h1,⟨a2,b2⟩,h2,⟨a3,b3⟩,h3,⟨a4,b4⟩,h4,⟨a5,b5⟩,h5,rfl,rfl⟩ := h
 have := nodeQ_le h1
 have := nodeQ_le h2
 have := nodeQ_le h3
 have := nodeQ_le h4
 exact { ht with node := by simp only [R32]; omega,mn := by simp only [R32]; omega,mr := by simp only [R32]; omega,me := by simp only [R32]; omega }
theorem okR_airR : OkR (airR) := by
 intro t l t' l' ht h
 simp only [airR,Option.bind_eq_some_iff,Option.some.injEq,Prod.mk.injEq] at h
 obtain ⟨⟨a1,b1⟩,h1,rfl,rfl⟩ := h
 exact { ht with c := ctQ_ok h1 }
theorem okR_lightR : OkR (lightR) := by
 intro t l t' l' ht h
 simp only [lightR,Option.bind_eq_some_iff,Option.some.injEq,Prod.mk.injEq] at h
 obtain ⟨⟨a1,b1⟩,h1,rfl,rfl⟩ := h
 exact { ht with s := stQ_ok h1 }
theorem okR_planR : OkR (planR) := by
 intro t l t' l' ht h
 simp only [planR,Option.bind_eq_some_iff,Option.some.injEq,Prod.mk.injEq] at h
 obtain ⟨⟨a1,b1⟩,h1,⟨a2,b2⟩,h2,⟨a3,b3⟩,h3,rfl,rfl⟩ := h
 have := nodeQ_le h1
 have := nodeQ_le h2
 exact { ht with node := by simp only [R32]; omega,n := by simp only [R64]; omega,c := ctQ_ok h3 }
theorem okR_stepR : OkR (stepR) := by
 intro t l t' l' ht h
 simp only [stepR,Option.bind_eq_some_iff,Option.some.injEq,Prod.mk.injEq] at h
 obtain ⟨⟨a1,b1⟩,h1,⟨a2,b2⟩,h2,rfl,rfl⟩ := h
 have := nodeQ_le h1
 exact { ht with node := by simp only [R32]; omega,s := stQ_ok h2 }
theorem okR_treeR : OkR (treeR) := by
 intro t l t' l' ht h
 simp only [treeR,Option.bind_eq_some_iff,Option.some.injEq,Prod.mk.injEq] at h
 obtain ⟨⟨a1,b1⟩,h1,⟨a2,b2⟩,h2,⟨a3,b3⟩,h3,rfl,rfl⟩ := h
 have := nodeQ_le h1
 have := nodeQ_le h2
 have := nodeQ_le h3
 exact { ht with node := by simp only [R32]; omega,n := by simp only [R64]; omega,to' := by simp only [R32]; omega }
theorem okR_serveR : OkR (serveR) := by
 intro t l t' l' ht h
 simp only [serveR,Option.bind_eq_some_iff,Option.some.injEq,Prod.mk.injEq] at h
 obtain ⟨⟨a1,b1⟩,h1,⟨a2,b2⟩,h2,⟨a3,b3⟩,h3,rfl,rfl⟩ := h
 have := nodeQ_le h1
 have := nodeQ_le h2
 have := smallQ_le h3
 exact { ht with node := by simp only [R32]; omega,to' := by simp only [R32]; omega,fate := by simp only; omega }
theorem okR_landR : OkR (landR) := by
 intro t l t' l' ht h
 simp only [landR,Option.bind_eq_some_iff,Option.some.injEq,Prod.mk.injEq] at h
 obtain ⟨⟨a1,b1⟩,h1,rfl,rfl⟩ := h
 have := longQ_le h1
 exact { ht with n := by simp only [R64]; omega }
theorem okR_tickR : OkR (tickR) := by
 intro t l t' l' ht h
 simp only [tickR,Option.bind_eq_some_iff,Option.some.injEq,Prod.mk.injEq] at h
 obtain ⟨⟨a1,b1⟩,h1,rfl,rfl⟩ := h
 have := longQ_le h1
 exact { ht with n := by simp only [R64]; omega }
theorem okR_crashR : OkR (crashR) := by
 intro t l t' l' ht h
 simp only [crashR,Option.bind_eq_some_iff,Option.some.injEq,Prod.mk.injEq] at h
 obtain ⟨⟨a1,b1⟩,h1,⟨a2,b2⟩,h2,rfl,rfl⟩ := h
 have := nodeQ_le h1
 exact { ht with node := by simp only [R32]; omega }
theorem okR_armR : OkR (armR) := by
 intro t l t' l' ht h
 simp only [armR,Option.bind_eq_some_iff,Option.some.injEq,Prod.mk.injEq] at h
 obtain ⟨⟨a1,b1⟩,h1,⟨a2,b2⟩,h2,rfl,rfl⟩ := h
 have := nodeQ_le h1
 have := longQ_le h2
 exact { ht with node := by simp only [R32]; omega,n := by simp only [R64]; omega }
theorem okR_askR : OkR (askR) := by
 intro t l t' l' ht h
 simp only [askR,Option.bind_eq_some_iff,Option.some.injEq,Prod.mk.injEq] at h
 obtain ⟨⟨a1,b1⟩,h1,⟨a2,b2⟩,h2,⟨a3,b3⟩,h3,rfl,rfl⟩ := h
 have := nodeQ_le h1
 have := nodeQ_le h2
 have := nodeQ_le h3
 exact { ht with node := by simp only [R32]; omega,to' := by simp only [R32]; omega,n := by simp only [R64]; omega }
theorem ok0 (k : Int) : ({ trn0 with kind := k } : Trn).Ok := by
 constructor <;> first | exact ⟨by simp [trn0],by simp [trn0]⟩ | (constructor <;> exact ⟨by simp [trn0],by simp [trn0]⟩)
def RdOk (rd : Tx → Option (Int × (Trn → List Tx → Option (Trn × List Tx)))) : Prop := ∀ s k R,rd s = some (k,R) → OkR R
theorem turnP_ok {rd : Tx → Option (Int × (Trn → List Tx → Option (Trn × List Tx)))} (h : RdOk rd) : ∀ s t', turnP rd s = some t' → t'.Ok := by
 intro s t' hs
 unfold turnP at hs
 split at hs
 ·cases hs
 ·split at hs
  ·cases hs
  ·rename_i k R hr
   split at hs
   ·rename_i t hx
    cases hs
    exact h _ _ _ hr _ _ _ _ (ok0 k) hx
   ·cases hs
theorem rdW_ok : RdOk rdW := by
 intro s k R h
 unfold rdW at h
 by_cases c0 : s = [110, 111, 100, 101]
 ·rw [if_pos c0] at h; cases h; exact okR_nodeR
 rw [if_neg c0] at h
 by_cases c1 : s = [111, 112, 101, 110]
 ·rw [if_pos c1] at h; cases h; exact okR_openR_true
 rw [if_neg c1] at h
 by_cases c2 : s = [99, 108, 111, 115, 101]
 ·rw [if_pos c2] at h; cases h; exact okR_openR_false
 rw [if_neg c2] at h
 by_cases c3 : s = [115, 101, 110, 100]
 ·rw [if_pos c3] at h; cases h; exact okR_sendR
 rw [if_neg c3] at h
 by_cases c4 : s = [109, 101, 109, 98, 101, 114]
 ·rw [if_pos c4] at h; cases h; exact okR_memberR
 rw [if_neg c4] at h
 by_cases c5 : s = [97, 105, 114]
 ·rw [if_pos c5] at h; cases h; exact okR_airR
 rw [if_neg c5] at h
 by_cases c6 : s = [108, 105, 103, 104, 116]
 ·rw [if_pos c6] at h; cases h; exact okR_lightR
 rw [if_neg c6] at h
 by_cases c7 : s = [112, 108, 97, 110]
 ·rw [if_pos c7] at h; cases h; exact okR_planR
 rw [if_neg c7] at h
 by_cases c8 : s = [115, 116, 101, 112]
 ·rw [if_pos c8] at h; cases h; exact okR_stepR
 rw [if_neg c8] at h
 by_cases c9 : s = [116, 114, 101, 101]
 ·rw [if_pos c9] at h; cases h; exact okR_treeR
 rw [if_neg c9] at h
 by_cases c10 : s = [115, 101, 114, 118, 101]
 ·rw [if_pos c10] at h; cases h; exact okR_serveR
 rw [if_neg c10] at h
 by_cases c11 : s = [108, 97, 110, 100]
 ·rw [if_pos c11] at h; cases h; exact okR_landR
 rw [if_neg c11] at h
 by_cases c12 : s = [116, 105, 99, 107]
 ·rw [if_pos c12] at h; cases h; exact okR_tickR
 rw [if_neg c12] at h
 by_cases c13 : s = [99, 114, 97, 115, 104]
 ·rw [if_pos c13] at h; cases h; exact okR_crashR
 rw [if_neg c13] at h
 by_cases c14 : s = [97, 114, 109]
 ·rw [if_pos c14] at h; cases h; exact okR_armR
 rw [if_neg c14] at h
 by_cases c15 : s = [97, 115, 107]
 ·rw [if_pos c15] at h; cases h; exact okR_askR
 rw [if_neg c15] at h
 cases h
end Go.Proofs