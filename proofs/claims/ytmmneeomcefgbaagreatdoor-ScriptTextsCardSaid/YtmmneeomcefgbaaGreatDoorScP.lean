/-
  Contracts of the functions that the law reaches,step by step.
-/
import Derived.Test.YtmmneeomcefgbaaGreatDoorScO
namespace Go.Proofs
open Pk
set_option maxRecDepth 100000
attribute [local simp] beq_dec bne_dec
abbrev openT : Tx := [111,112,101,110]
/-- The words,and their kinds. -/
def lnW : List (Tx × Int) := [([110, 111, 100, 101], 1), (openT, 2), ([99, 108, 111, 115, 101], 2), ([115, 101, 110, 100], 3), ([109, 101, 109, 98, 101, 114], 8), (tellT, 16), ([97, 105, 114], 4), ([108, 105, 103, 104, 116], 5),
  ([112,108,97,110],6),([115,116,101,112],7),([116,114,101,101],9),([115,101,114,118,101],10),([108,97,110,100],11),([116,105,99,107],12),([99,114,97,115,104],13),([97,114,109],14),([97,115,107],15)]
def hitW (t : Trn) (p : Tx × Int) : Bool := decide (p.2 = t.kind) && (decide (t.kind ≠ 2) || (decide (p.1 = openT) == t.yes))
def findW (t : Trn) : Option (Tx × Int) := lnW.find? (hitW t)
theorem lnW_one : ∀ p ∈ lnW,∀ q ∈ lnW,p.2 = q.2 → (p.2 = 2 → decide (p.1 = openT) = decide (q.1 = openT)) → p = q := by decide +kernel
theorem lnW_tell : ∀ p ∈ lnW,p.1 = tellT → p.2 = 16 := by decide +kernel
theorem lnW_sp : ∀ p ∈ lnW,(32 : UInt8) ∉ p.1 ∧ p.1.length ≤ 6 := by decide +kernel
theorem findW_hit {t : Trn} {p : Tx × Int} (hp : p ∈ lnW) (h : hitW t p = true) : findW t = some p := by
  rcases hf : findW t with _ | q
  · have := List.find?_eq_none.1 hf p hp
    exact absurd h this
  · have hq := List.find?_some hf
    have hm := List.mem_of_find?_eq_some hf
    simp only [hitW,Bool.and_eq_true,decide_eq_true_eq,Bool.or_eq_true,beq_iff_eq] at h hq
    rw [lnW_one q hm p hp (by rw [hq.1, h.1]) fun h2 => by
      have h3 := hq.2.resolve_left (by omega)
      have h4 := h.2.resolve_left (by omega)
      rw [h3,h4]]
/-- How a turn's words are laid,by its kind. -/
def layK (tl : Trn → Option (List Tx)) (t : Trn) : Option (List Tx) :=
  if t.kind = 1 then lnodeP t else if t.kind = 2 then lopenP t else if t.kind = 3 then lsendP t else if t.kind = 4 then lairP t else if t.kind = 5 then llightP t else if t.kind = 6 then lplanP t
  else if t.kind = 7 then lstepP t else if t.kind = 8 then lmemberP t else if t.kind = 9 then ltreeP t else if t.kind = 10 then lserveP t else if t.kind = 11 then llandP t else if t.kind = 12 then ltickP t
  else if t.kind = 13 then lcrashP t else if t.kind = 14 then larmP t else if t.kind = 15 then laskP t else if t.kind = 16 then tl t else none
/-- A value that lays a turn. -/
def LayF (tl : Trn → Option (List Tx)) (t : Trn) (vp vk fl : Value) : Prop := ∀ {w : World}, SlB w 1 vp t.pay.length (t.pay.map encB) → SlB w 1 vk t.keep.length (t.keep.map Value.bool) → t.pay.length ≤ 1000000 → t.keep.length ≤ 1000000 → Gl w →
  CV Tryz.prog fl [trV t vp vk] w fun e w' => LayE w w' (layK tl t) e
theorem lnL_all (tl : Trn → Option (List Tx)) {f1 f2 : Nat} {t : Trn} {vp vk : Value} (ht : t.Ok) (htell : t.kind = 16 → LayF tl t vp vk (fnV 122)) : ∀ p ∈ lnL f1 f2, ∃ (k : Int) (fl fr : Value), p.2 = [i64 k, fl, fr] ∧ (p.1, k) ∈ lnW ∧ oneV fl = true ∧ oneV fr = true ∧ (k = t.kind → LayF tl t vp vk fl) := by
  intro p hp
  simp only [lnL,List.mem_cons,List.not_mem_nil,or_false] at hp
  rcases hp with rfl | rfl | rfl | rfl | rfl | rfl | rfl | rfl | rfl | rfl | rfl | rfl | rfl | rfl | rfl | rfl | rfl
  · exact ⟨1,_,_,rfl,by simp [lnW],rfl,rfl,fun h _ hp hk hpl hkl hG => by rw [CV_func]; have := lnode_c ht hp hk hpl hkl hG; rwa [show lnodeP t = layK tl t by simp [layK,← h]] at this⟩
  · exact ⟨2,_,_,rfl,by simp [lnW],rfl,rfl,fun h _ hp hk hpl hkl hG => by rw [CV_func]; have := lopen_c ht hp hk hpl hkl hG; rwa [show lopenP t = layK tl t by simp [layK,← h]] at this⟩
  · exact ⟨2,_,_,rfl,by simp [lnW],rfl,rfl,fun h _ hp hk hpl hkl hG => by rw [CV_func]; have := lopen_c ht hp hk hpl hkl hG; rwa [show lopenP t = layK tl t by simp [layK,← h]] at this⟩
  · exact ⟨3,_,_,rfl,by simp [lnW],rfl,rfl,fun h _ hp hk hpl hkl hG => by rw [CV_func]; have := lsend_c ht hp hk hpl hkl hG; rwa [show lsendP t = layK tl t by simp [layK,← h]] at this⟩
  · exact ⟨8,_,_,rfl,by simp [lnW],rfl,rfl,fun h _ hp hk hpl hkl hG => by rw [CV_func]; have := lmember_c ht hp hk hpl hkl hG; rwa [show lmemberP t = layK tl t by simp [layK,← h]] at this⟩
  · exact ⟨16,_,_,rfl,by simp [lnW],rfl,rfl,fun h => htell h.symm⟩
  · exact ⟨4,_,_,rfl,by simp [lnW],rfl,rfl,fun h _ hp hk hpl hkl hG => by rw [CV_func]; have := lair_c ht hp hk hpl hkl hG; rwa [show lairP t = layK tl t by simp [layK,← h]] at this⟩
  · exact ⟨5,_,_,rfl,by simp [lnW],rfl,rfl,fun h _ hp hk hpl hkl hG => by rw [CV_func]; have := llight_c ht hp hk hpl hkl hG; rwa [show llightP t = layK tl t by simp [layK,← h]] at this⟩
  · exact ⟨6,_,_,rfl,by simp [lnW],rfl,rfl,fun h _ hp hk hpl hkl hG => by rw [CV_func]; have := lplan_c ht hp hk hpl hkl hG; rwa [show lplanP t = layK tl t by simp [layK,← h]] at this⟩
  · exact ⟨7,_,_,rfl,by simp [lnW],rfl,rfl,fun h _ hp hk hpl hkl hG => by rw [CV_func]; have := lstep_c ht hp hk hpl hkl hG; rwa [show lstepP t = layK tl t by simp [layK,← h]] at this⟩
  · exact ⟨9,_,_,rfl,by simp [lnW],rfl,rfl,fun h _ hp hk hpl hkl hG => by rw [CV_func]; have := ltree_c ht hp hk hpl hkl hG; rwa [show ltreeP t = layK tl t by simp [layK,← h]] at this⟩
  · exact ⟨10,_,_,rfl,by simp [lnW],rfl,rfl,fun h _ hp hk hpl hkl hG => by rw [CV_func]; have := lserve_c ht hp hk hpl hkl hG; rwa [show lserveP t = layK tl t by simp [layK,← h]] at this⟩
  · exact ⟨11,_,_,rfl,by simp [lnW],rfl,rfl,fun h _ hp hk hpl hkl hG => by rw [CV_func]; have := lland_c ht hp hk hpl hkl hG; rwa [show llandP t = layK tl t by simp [layK,← h]] at this⟩
  · exact ⟨12,_,_,rfl,by simp [lnW],rfl,rfl,fun h _ hp hk hpl hkl hG => by rw [CV_func]; have := ltick_c ht hp hk hpl hkl hG; rwa [show ltickP t = layK tl t by simp [layK,← h]] at this⟩
  · exact ⟨13,_,_,rfl,by simp [lnW],rfl,rfl,fun h _ hp hk hpl hkl hG => by rw [CV_func]; have := lcrash_c ht hp hk hpl hkl hG; rwa [show lcrashP t = layK tl t by simp [layK,← h]] at this⟩
  · exact ⟨14,_,_,rfl,by simp [lnW],rfl,rfl,fun h _ hp hk hpl hkl hG => by rw [CV_func]; have := larm_c ht hp hk hpl hkl hG; rwa [show larmP t = layK tl t by simp [layK,← h]] at this⟩
  · exact ⟨15,_,_,rfl,by simp [lnW],rfl,rfl,fun h _ hp hk hpl hkl hG => by rw [CV_func]; have := lask_c ht hp hk hpl hkl hG; rwa [show laskP t = layK tl t by simp [layK,← h]] at this⟩
/-! ### The words of a joined line; how long it is -/
theorem wds_app : ∀ (s r : Tx), (32 : UInt8) ∉ s → wds (s ++ 32 :: r) = s :: wds r
  | [],r,_ => by simp [wds]
  | c :: s, r, h => by
    have hc : c ≠ 32 := fun e => h (by simp [e])
    rw [List.cons_append,wds,if_neg hc,wds_app s r (fun e => h (by simp [e]))]
theorem wds_one : ∀ (s : Tx), (32 : UInt8) ∉ s → wds s = [s]
  | [],_ => rfl
  | c :: s, h => by
    have hc : c ≠ 32 := fun e => h (by simp [e])
    rw [wds,if_neg hc,wds_one s (fun e => h (by simp [e]))]
def joinW (l : List Tx) : Tx := Lib.join l [32]
theorem joinW_head (s : Tx) (l : List Tx) (h : (32 : UInt8) ∉ s) : ∃ l', wds (joinW (s :: l)) = s :: l' := by
  unfold joinW
  rw [Lib.join_cons]
  cases l with
  | nil => exact ⟨[],by simp [Lib.joinTail,wds_one s h]⟩
  | cons y r => exact ⟨_,by simp only [Lib.joinTail,List.map_cons,List.flatten_cons,List.cons_append,List.nil_append]; exact wds_app s _ h⟩
theorem joinTail_len (B : Nat) : ∀ (r : List Tx), (∀ y ∈ r, y.length ≤ B) → (Lib.joinTail [32] r).length ≤ r.length * (B + 1)
  | [],_ => by simp [Lib.joinTail]
  | y :: r, h => by
    have h1 := joinTail_len B r fun z hz => h z (by simp [hz])
    have h2 := h y (by simp)
    simp only [Lib.joinTail,List.map_cons,List.flatten_cons,List.length_append,List.length_cons,List.length_nil] at h1 ⊢
    rw [Nat.add_mul]
    omega
theorem dec_len {n : Nat} (h : n ≤ 18446744073709551615) : (Lib.decDigits n).length ≤ 45 := by
  rw [Lib.decDigits_length]
  have := nd20 n h
  omega
theorem decI_len {x : Int} (h : 0 ≤ x ∧ x ≤ 18446744073709551615) : (decI x).length ≤ 45 := dec_len (by omega)
/-- What is laid is short. -/
def Bnd (B : Nat) (o : Option (List Tx)) : Prop := ∀ l,o = some l → l.length ≤ 8 ∧ ∀ x ∈ l,x.length ≤ B
theorem Bnd.some {B : Nat} {l : List Tx} (h1 : l.length ≤ 8) (h2 : ∀ x ∈ l,x.length ≤ B) : Bnd B (some l) := fun m h => by cases h; exact ⟨h1,h2⟩
theorem Bnd.cap {B M : Nat} {n : Int} {f : Tx → Option (List Tx)} (hM : M ≤ 18446744073709551615) (h : ∀ x, x.length ≤ 45 → Bnd B (f x)) : Bnd B ((capI M n).bind f) := by
  intro l hl
  unfold capI capT at hl
  split at hl
  · exact h _ (dec_len (by omega)) l hl
  · cases hl
theorem Bnd.point {B : Nat} {n s : Int} {f : Tx → Option (List Tx)} (hn : R32 n) (hs : R32 s) (h : ∀ x, x.length ≤ 45 → Bnd B (f x)) : Bnd B ((pointI n s).bind f) := by
  intro l hl
  unfold pointI pointP at hl
  split at hl
  · cases hl
  · refine h _ ?_ l hl
    unfold toldP
    split
    · simp
    · simp only [List.length_append,Lib.decDigits_length]
      have := nd10 n.toNat (by omega)
      have := nd10 s.toNat (by omega)
      simp
      omega
theorem Bnd.mono {A B : Nat} {o : Option (List Tx)} (h : Bnd A o) (hl : A ≤ B) : Bnd B o := fun l e => ⟨(h l e).1,fun x hx => Nat.le_trans ((h l e).2 x hx) hl⟩
theorem hexO_len (b : List UInt8) : (hexO b).length ≤ 2 * b.length + 1 := by
  unfold hexO
  split
  · simp
  · rw [hexT_len]; omega
theorem bitsO_len (b : List Bool) : (bitsO b).length ≤ b.length + 1 := by
  unfold bitsO
  split
  · simp
  · simp
theorem R32.w {x : Int} (h : R32 x) : 0 ≤ x ∧ x ≤ 18446744073709551615 := by omega
theorem ctL_bnd {c : Ctc} (h : c.Ok) : Bnd 45 (ctL c) :=
  Bnd.cap (by decide) fun x hx => Bnd.cap (by decide) fun y hy => Bnd.cap (by decide) fun z hz => Bnd.some (by simp) (by
    have h1 := decI_len h.fr.w
    have h2 := decI_len h.to'.w
    simp [*])
theorem stL_bnd {c : Stp} (h : c.Ok) : Bnd 45 (stL c) :=
  Bnd.cap (by decide) fun x hx => Bnd.cap (by decide) fun y hy => Bnd.some (by simp) (by
    have h1 := decI_len h.fr.w
    have h2 := decI_len h.to'.w
    simp [*])
theorem layK_bnd (tl : Trn → Option (List Tx)) {t : Trn} (ht : t.Ok) {B : Nat} (hB : 2 * t.pay.length + t.keep.length + 100 ≤ B) (htl : Bnd B (tl t)) : Bnd B (layK tl t) := by
  have h1 := decI_len ht.node.w
  have h2 := decI_len ht.to'.w
  have h3 := decI_len (x := t.fate) (by have := ht.fate; omega)
  have h4 := decI_len ht.lsvc.w
  have h5 := decI_len ht.lflg.w
  have h6 := decI_len (x := t.lim) (by have := ht.lim; omega)
  have h7 := decI_len ht.mn.w
  have h8 := decI_len ht.mr.w
  have h9 := decI_len ht.me.w
  have h10 := hexO_len t.pay
  have h11 := bitsO_len t.keep
  have h12 : (ioT t.mi).length ≤ 3 := by cases t.mi <;> decide
  have all : ∀ (l : List Tx),l.length ≤ 8 → (∀ x ∈ l,x.length ≤ 2 * t.pay.length + t.keep.length + 50) → Bnd B (some l) := fun l a b => Bnd.some a fun x hx => by have := b x hx; omega
  unfold layK
  by_cases k1 : t.kind = 1
  · rw [if_pos k1]
    exact Bnd.cap (by decide) fun x hx => all _ (by simp) (by simp; omega)
  rw [if_neg k1]
  by_cases k2 : t.kind = 2
  · rw [if_pos k2]
    exact Bnd.cap (by decide) fun x hx => all _ (by simp) (by simp; omega)
  rw [if_neg k2]
  by_cases k3 : t.kind = 3
  · rw [if_pos k3]
    exact Bnd.point ht.lton ht.ltos fun x hx => Bnd.point ht.lren ht.lres fun y hy => Bnd.cap (by decide) fun z hz => all _ (by simp) (by simp; omega)
  rw [if_neg k3]
  by_cases k4 : t.kind = 4
  · rw [if_pos k4]
    intro l hl
    simp only [lairP] at hl
    exact ((ctL_bnd ht.c).mono (by omega)) l (by simpa using hl)
  rw [if_neg k4]
  by_cases k5 : t.kind = 5
  · rw [if_pos k5]
    intro l hl
    exact ((stL_bnd ht.s).mono (by omega)) l (by simpa [llightP] using hl)
  rw [if_neg k5]
  by_cases k6 : t.kind = 6
  · rw [if_pos k6]
    refine Bnd.cap (by decide) fun x hx l hl => ?_
    obtain ⟨y,hy,e⟩ := Option.bind_eq_some_iff.1 hl
    cases e
    have hc := ctL_bnd ht.c y hy
    have := ctL_len hy
    refine all _ (by simp; omega) (fun z hz => ?_) _ rfl
    simp only [List.mem_append,List.mem_cons,List.not_mem_nil,or_false] at hz
    rcases hz with (rfl | rfl) | hz
    · omega
    · omega
    · have := hc.2 z hz; omega
  rw [if_neg k6]
  by_cases k7 : t.kind = 7
  · rw [if_pos k7]
    intro l hl
    obtain ⟨y,hy,e⟩ := Option.bind_eq_some_iff.1 hl
    cases e
    have hc := stL_bnd ht.s y hy
    have := stL_len hy
    refine all _ (by simp; omega) (fun z hz => ?_) _ rfl
    simp only [List.mem_append,List.mem_cons,List.not_mem_nil,or_false] at hz
    rcases hz with rfl | hz
    · omega
    · have := hc.2 z hz; omega
  rw [if_neg k7]
  by_cases k8 : t.kind = 8
  · rw [if_pos k8]
    exact all _ (by simp) (by simp; omega)
  rw [if_neg k8]
  by_cases k9 : t.kind = 9
  · rw [if_pos k9]
    exact Bnd.cap (by decide) fun x hx => all _ (by simp) (by simp; omega)
  rw [if_neg k9]
  by_cases k10 : t.kind = 10
  · rw [if_pos k10]
    exact all _ (by simp) (by simp; omega)
  rw [if_neg k10]
  by_cases k11 : t.kind = 11
  · rw [if_pos k11]
    exact Bnd.cap (by decide) fun x hx => all _ (by simp) (by simp; omega)
  rw [if_neg k11]
  by_cases k12 : t.kind = 12
  · rw [if_pos k12]
    exact Bnd.cap (by decide) fun x hx => all _ (by simp) (by simp; omega)
  rw [if_neg k12]
  by_cases k13 : t.kind = 13
  · rw [if_pos k13]
    exact all _ (by simp) (by simp; omega)
  rw [if_neg k13]
  by_cases k14 : t.kind = 14
  · rw [if_pos k14]
    exact Bnd.cap (by decide) fun x hx => all _ (by simp) (by simp; omega)
  rw [if_neg k14]
  by_cases k15 : t.kind = 15
  · rw [if_pos k15]
    exact Bnd.cap (by decide) fun x hx => all _ (by simp) (by simp; omega)
  rw [if_neg k15]
  by_cases k16 : t.kind = 16
  · rw [if_pos k16]
    exact htl
  rw [if_neg k16]
  intro l hl; cases hl
theorem joinW_len {B : Nat} {o : Option (List Tx)} {l : List Tx} {s : Tx} (h : Bnd B o) (ho : o = some l) (hs : s.length ≤ 6) : (joinW (s :: l)).length ≤ 8 * (B + 1) + 6 := by
  obtain ⟨h1,h2⟩ := h l ho
  unfold joinW
  rw [Lib.join_cons,List.length_append]
  have := joinTail_len B l h2
  have := Nat.mul_le_mul_right (B + 1) h1
  omega
end Go.Proofs
