/-
 Contracts of the functions that the law reaches,step by step.
-/
import Derived.Test.YtmmneeomcefgbaaGreatDoorAeH
namespace Go.Proofs
open Pk
set_option maxRecDepth 10000
theorem conv_b {w : World} {v : Value} {b : List Int} (h : SlB w 1 v b.length (b.map u8)) : (convert 27 9 v).run Tryz.prog w = .ok (.string (strOfNums b)) w := by
 obtain ⟨ao,c,rfl,hc,ha⟩ := h.val
 by_cases h0 : b.length = 0
 ·have hb : b = [] := List.eq_nil_of_length_eq_zero h0
  subst hb
  rw [run_convert_bytes_string w 27 9 5 _ _ _ (by simp) (by simp) (by simp)]
  cases ao with
  | none => rfl
  | some a =>
   have hl := run_loadCells_list (P := Tryz.prog) w a [] (by simp)
   have h2 := run_bytesToString w a 0 c [] hl
   rw [foldl_push_bytes] at h2
   exact h2
 ·obtain ⟨g,o,rfl⟩ := ha (by omega)
  refine run_convert_bytes_arg _ 27 5 (by simp) (by simp) g o b.length c b rfl ?_ 9 (by simp)
  intro i hi
  refine h.at_ i _ ?_
  simp [List.getD,List.getElem?_eq_getElem hi]
def listP (p : List Int → Except Int (It × List Int)) : Nat → List Int → Except Int (List It × List Int)
 | 0,bs => .ok ([],bs)
 | n + 1, bs => match p bs with
  | .error c => .error c
  | .ok (x, r) => match listP p n r with
   | .error c => .error c
   | .ok (l,r') => .ok (x :: l,r')
def tailP (tx : ByteArray → Option Bool) (p : List Int → Except Int (It × List Int)) (m n : Int) (rest : List Int) : Except Int (It × List Int) :=
 if m = 0 then .ok (.mk 1 n [] ⟨#[]⟩ [],rest)
 else if m = 2 then (if n ≤ rest.length then .ok (.mk 2 0 (rest.take n.toNat) ⟨#[]⟩ [],rest.drop n.toNat) else .error 121)
 else if m = 3 then (if n ≤ rest.length then (match tx (strOfNums (rest.take n.toNat)) with
   | none => .error (-1)
   | some true => .ok (.mk 3 0 [] (strOfNums (rest.take n.toNat)) [],rest.drop n.toNat)
   | some false => .error 121) else .error 121)
 else if m = 4 then (match listP p n.toNat rest with
   | .error c => .error c
   | .ok (l,r) => .ok (.mk 4 0 [] ⟨#[]⟩ l,r))
 else .error 121
def headedP (tx : ByteArray → Option Bool) (p : List Int → Except Int (It × List Int)) (bs : List Int) : Except Int (It × List Int) :=
 match headP bs with
 | none => .error 121
 | some (m,n,rest) => tailP tx p m n rest
def simpleI (k : Nat) : It := if k = 0 then .mk 5 0 [] ⟨#[]⟩ [] else if k = 1 then .mk 5 1 [] ⟨#[]⟩ [] else .mk 6 0 [] ⟨#[]⟩ []
def itemP (tx : ByteArray → Option Bool) : Nat → List Int → Except Int (It × List Int)
 | 0,_ => .error 120
 | f + 1, bs =>
  if beg bs [244] then .ok (simpleI 0,bs.drop 1)
  else if beg bs [245] then .ok (simpleI 1,bs.drop 1)
  else if beg bs [246] then .ok (simpleI 2,bs.drop 1)
  else headedP tx (itemP tx f) bs
def RiR (w0 w w' : World) (r : Nat) (o : Except Int (It × List Int)) (e : Ending) : Prop := Mod (fun k => k = r) w w' ∧ match o with
 | .error c => e = .panicked (panV c)
 | .ok (t,rest) => (∃ cs,e = .returned (.agg cs.toArray) ∧ ItP (fun k => w.heap.size ≤ k) w' t cs) ∧ Lf w0 w' r rest
theorem ri_fin {w0 w W : World} {r : Nat} {rest : List Int} {t : It} {a0 a1 a2 a3 a4 : Value} (hM : Mod (fun k => k = r) w W) (hr : r < w.heap.size) (hI : ItP (fun k => w.heap.size < k) W t [a0, a1, a2, a3, a4]) (hL : Lf w0 W r rest) :
  RiR w0 w (((((W.setCell ⟨w.heap.size,0,none⟩ a0).setCell ⟨w.heap.size,1,none⟩ a1).setCell ⟨w.heap.size,2,none⟩ a2).setCell ⟨w.heap.size,3,none⟩ a3).setCell ⟨w.heap.size,4,none⟩ a4) r (.ok (t,rest)) (.returned (.agg #[a0,a1,a2,a3,a4])) := by
 have m7 := five_mod W w.heap.size a0 a1 a2 a3 a4
 have hle := hL.le
 exact ⟨hM.trans' m7 fun j hj => .inr (by omega),⟨_,rfl,hI.go m7 fun k _ hk => ⟨by omega,by omega⟩⟩,hL.mod m7 fun j hj => ⟨by omega,by omega⟩⟩
theorem ofBe_nn {l : List Int} (hb : ∀ x ∈ l, 0 ≤ x ∧ x ≤ 255) (hl : l.length ≤ 8) : 0 ≤ ofBe l ∧ ofBe l ≤ 18446744073709551615 := by
 obtain ⟨A,hA,hlt⟩ := ofBe_b hb l.length (Nat.le_refl _)
 rw [List.take_length] at hA
 have : A < 2 ^ 64 := Nat.lt_of_lt_of_le hlt (Nat.pow_le_pow_right (by omega) (by omega))
 omega
theorem headP_b {bs rest : List Int} {m n : Int} (hok : ∀ x ∈ bs, 0 ≤ x ∧ x ≤ 255) (h : headP bs = some (m, n, rest)) : (0 ≤ m ∧ m ≤ 7) ∧ (0 ≤ n ∧ n ≤ 18446744073709551615) ∧ ∃ pre, bs = pre ++ rest ∧ pre ≠ [] := by
 cases bs with
 | nil => cases h
 | cons c r =>
  have hc := hok c (by simp)
  rw [headP_cons] at h
  split at h
  ·split at h
   ·cases h; exact ⟨by omega,by omega,[c],rfl,by simp⟩
   ·cases h
  ·split at h
   ·split at h
    ·split at h
     ·rename_i h24 h28 hl hq
      simp only [Option.some.injEq,Prod.mk.injEq] at h
      obtain ⟨rfl,rfl,rfl⟩ := h
      obtain ⟨k,hk,hk3⟩ : ∃ k : Nat,(c % 32 - 24).toNat = k ∧ k ≤ 3 := ⟨_,rfl,by omega⟩
      rw [hk]
      have h2 : 2 ^ k ≤ 8 := Nat.pow_le_pow_right (n := 2) (by omega) hk3
      refine ⟨by omega,ofBe_nn (fun x hx => hok x (by simp; exact .inr (List.mem_of_mem_take hx))) (by rw [List.length_take]; omega),c :: r.take (2 ^ k),by simp,by simp⟩
     ·cases h
    ·cases h
   ·cases h
theorem listP_suf {p : List Int → Except Int (It × List Int)} (hp : ∀ bs t rest, (∀ x ∈ bs, 0 ≤ x ∧ x ≤ 255) → p bs = .ok (t, rest) → ∃ pre, bs = pre ++ rest ∧ pre ≠ []) : ∀ (n : Nat) (bs : List Int) (l : List It) (rest : List Int), (∀ x ∈ bs, 0 ≤ x ∧ x ≤ 255) → listP p n bs = .ok (l, rest) → ∃ pre, bs = pre ++ rest
 | 0,bs,l,rest,_,h => by simp only [listP,Except.ok.injEq,Prod.mk.injEq] at h; obtain ⟨rfl,rfl⟩ := h; exact ⟨[],rfl⟩
 | n + 1, bs, l, rest, hb, h => by
  simp only [listP] at h
  split at h
  ·cases h
  ·rename_i x r hx
   split at h
   ·cases h
   ·rename_i l' r' hl
    simp only [Except.ok.injEq,Prod.mk.injEq] at h
    obtain ⟨rfl,rfl⟩ := h
    obtain ⟨pre,rfl,-⟩ := hp _ _ _ hb hx
    obtain ⟨pre2,rfl⟩ := listP_suf hp n r l' r' (fun x hx => hb x (by simp [hx])) hl
    exact ⟨pre ++ pre2,by rw [List.append_assoc]⟩
theorem beg_one {bs : List Int} {c : Int} (h : beg bs [c] = true) : bs = c :: bs.drop 1 := by
 unfold beg at h
 cases bs with
 | nil => simp at h
 | cons a r => simp at h; rw [h]; simp
theorem itemP_lt {tx : ByteArray → Option Bool} : ∀ (f : Nat) (bs : List Int) (t : It) (rest : List Int), (∀ x ∈ bs, 0 ≤ x ∧ x ≤ 255) → itemP tx f bs = .ok (t, rest) → ∃ pre, bs = pre ++ rest ∧ pre ≠ []
 | 0,bs,t,rest,_,h => by simp [itemP] at h
 | f + 1, bs, t, rest, hb, h => by
  have one : ∀ c,beg bs [c] = true → rest = bs.drop 1 → ∃ pre,bs = pre ++ rest ∧ pre ≠ [] := fun c hc hr => ⟨[c],by rw [hr]; exact beg_one hc,by simp⟩
  simp only [itemP] at h
  split at h
  ·rename_i hc; cases h; exact one _ hc rfl
  split at h
  ·rename_i hc; cases h; exact one _ hc rfl
  split at h
  ·rename_i hc; cases h; exact one _ hc rfl
  unfold headedP at h
  split at h
  ·cases h
  ·rename_i m n r hh
   obtain ⟨-,-,pre,rfl,hpre⟩ := headP_b hb hh
   have fin : (∃ p2, r = p2 ++ rest) → ∃ p, pre ++ r = p ++ rest ∧ p ≠ [] := by
    rintro ⟨p2,rfl⟩
    exact ⟨pre ++ p2,by rw [List.append_assoc],by simp [hpre]⟩
   unfold tailP at h
   split at h
   ·cases h; exact fin ⟨[],rfl⟩
   split at h
   ·split at h
    ·cases h; exact fin ⟨r.take n.toNat,(List.take_append_drop _ _).symm⟩
    ·cases h
   split at h
   ·split at h
    ·split at h
     ·cases h
     ·cases h; exact fin ⟨r.take n.toNat,(List.take_append_drop _ _).symm⟩
     ·cases h
    ·cases h
   split at h
   ·split at h
    ·cases h
    ·rename_i l r' hl
     cases h
     exact fin (listP_suf (fun bs t rest hb h => itemP_lt f bs t rest hb h) n.toNat r l rest (fun x hx => hb x (by simp [hx])) hl)
   ·cases h
def Txt (tx : ByteArray → Option Bool) (w0 : World) : Prop := ∀ s b,tx s = some b → ∀ W,Ext w0 W → FN Tryz.prog 249 [.string s] W fun e W' => (∃ n,e = .returned (.tuple #[i64 n,.bool b])) ∧ Ext W W'
structure LsI (w0 w w7 w' : World) (r xb : Nat) (rest rest' : List Int) (l : List It) (u : Value) (css : List (List Value)) (p : List Int → Except Int (It × List Int)) (N k : Nat) : Prop where
 lf : Lf w0 w' r rest'
 x : ItBx w' xb 4 0 (.slice none 0 0) ⟨#[]⟩ u
 own : w'.ownsRow w7.heap.size 160 5 u l.length css.flatten
 it : ItPs (fun j => w7.heap.size ≤ j ∧ (slN u = false → j ≠ slB u)) w' l css
 mod : Mod (fun k => k = r) w w'
 res : ItBx w' w.heap.size 0 0 (.slice none 0 0) ⟨#[]⟩ (.slice none 0 0)
 sz : w7.heap.size ≤ w'.heap.size
 len : l.length + rest'.length ≤ rest.length
 eq : listP p N rest = (match listP p k rest' with | .error c => .error c | .ok (l',r') => .ok (l ++ l',r'))
set_option maxHeartbeats 4000000 in
theorem ritem_c {tx : ByteArray → Option Bool} {w0 : World} (hT : Txt tx w0) : ∀ (f : Nat), f ≤ 8 → ∀ {w : World} {r : Nat} {bs : List Int}, Lf w0 w r bs → itemP tx f bs ≠ .error (-1) → FN Tryz.prog 265 [ptr r, i64 (8 - (f : Int))] w fun e w' => RiR w0 w w' r (itemP tx f bs) e
 | 0, _, w, r, bs, h, hne => by
  refine FN_enter Tryz.func265 rfl rfl (by kernel_rfl) ?_
  simp
  have hE : Ext w (w.alloc (.cells #[i64 0,u64 0,.slice none 0 0,.string ⟨#[]⟩,.slice none 0 0] 160)) := (Ext.refl w).alloc _
  refine FN.mono (cmust_f 120 _) ?_
  rintro _ w1 ⟨rfl,hw⟩
  subst hw
  simp
  exact ⟨hE.mod,rfl⟩
 | f + 1, hf, w, r, bs, h, hne => by
  refine FN_enter Tryz.func265 rfl rfl (by kernel_rfl) ?_
  have hin : (8 : Int) - ((f + 1 : Nat) : Int) < 8 := by omega
  obtain ⟨inn,hinn⟩ : ∃ inn : Int,inn = 8 - ((f + 1 : Nat) : Int) := ⟨_,rfl⟩
  rw [← hinn] at hin ⊢
  simp [hin]
  have hE1 : Ext w (w.alloc (.cells #[i64 0,u64 0,.slice none 0 0,.string ⟨#[]⟩,.slice none 0 0] 160)) := (Ext.refl w).alloc _
  have b1 : ItBx (w.alloc (.cells #[i64 0,u64 0,.slice none 0 0,.string ⟨#[]⟩,.slice none 0 0] 160)) w.heap.size 0 0 (.slice none 0 0) ⟨#[]⟩ (.slice none 0 0) := ItBx.new w _ _ _ _ _ 160
  have z1 : (w.alloc (.cells #[i64 0,u64 0,.slice none 0 0,.string ⟨#[]⟩,.slice none 0 0] 160)).heap.size = w.heap.size + 1 := by simp
  generalize (w.alloc (.cells #[i64 0,u64 0,.slice none 0 0,.string ⟨#[]⟩,.slice none 0 0] 160)) = w1 at *
  refine FN.mono (must_c 120 w1) ?_
  rintro _ w2 ⟨⟨u,rfl⟩,hw2⟩
  subst hw2
  have hL2 := h.more hE1
  have hrne : w.heap.size ≠ r := by have := h.lt; omega
  simp
  refine WC_loop (fun m ρ ds w' => ∃ i : Nat, m = 3 - i ∧ i ≤ 3 ∧ ρ 0 = ptr r ∧ ρ 1 = i64 inn ∧ ρ 4 = ptr w.heap.size ∧ ρ 16 = .agg #[.int .u8 244, .int .u8 245, .int .u8 246] ∧ ρ 17 = i64 i ∧ ds = [] ∧ Ext w2 w' ∧ ∀ j : Nat, j < i → beg bs [244 + (j : Int)] = false) 3
   ⟨0,by simp,by simp,by simp,by simp,by simp,by simp,by simp,rfl,Ext.refl _,by omega⟩ ?_
  rintro m ρ ds w3 ⟨i,rfl,hi,e0,e1,e4,e16,e17,rfl,hE3,hno⟩
  have hL3 := hL2.more hE3
  obtain ⟨v3,p3,hS3⟩ := hL3.v
  have b3 := b1.ext hE3
  have hlen3 := fun ty W => hS3.isLen (P := Tryz.prog) (t := 306) (by simp) ty W
  by_cases hlt : i < 3
  ·have hone : Sl (w3.alloc (.cells #[u8 (244 + (i : Int))] 5)) 1 (.slice (some ⟨w3.heap.size,0,none⟩) 1 1) [244 + (i : Int)].length ([244 + (i : Int)].map u8) := Sl.made w3 [u8 (244 + (i : Int))] 5 1 1 rfl
   have hE4 : Ext w3 (w3.alloc (.cells #[u8 (244 + (i : Int))] 5)) := (Ext.refl _).alloc _
   have hbeg := begins_c (hS3.ext (hL3.ext.trans hE4)) hone.toB (by have := h.len; omega)
   have hw1 : IntKind.i64.wrap ((i : Int) + 1) = i + 1 := wrap64 _ (by omega) (by omega)
   have hlt' : (i : Int) < 3 := by omega
   have hidx : ∀ W, (Instr.index 334 (.agg #[.int .u8 244, .int .u8 245, .int .u8 246]) (i64 i)).run Tryz.prog W = .ok (u8 (244 + (i : Int))) W := fun W => by
    rcases (show i = 0 ∨ i = 1 ∨ i = 2 by omega) with rfl | rfl | rfl <;> kernel_rfl
   simp [e0,e16,e17,hlt',hidx,p3.cell 0 _ rfl]
   refine FN.mono (hbeg) ?_
   rintro _ w5 ⟨rfl,hE5⟩
   have hE35 := hE4.trans hE5
   have hL5 := hL3.more hE35
   cases hb : beg bs [244 + (i : Int)] with
   | false =>
    simp [e0,e1,e4,e16,e17,hw1]
    refine ⟨3 - (i + 1),by omega,i + 1,rfl,by omega,by push_cast; rfl,hE3.trans hE35,fun j hj => ?_⟩
    by_cases hji : j = i
    ·rw [hji]; exact hb
    ·exact hno j (by omega)
   | true =>
    simp [e0]
    have hbl : 1 ≤ bs.length := by
     unfold beg at hb
     simp at hb
     exact hb.1
    have ht := take_t hL5 (k := 1) hbl
    refine FN.mono (ht) ?_
    rintro _ w6 ⟨hM6,v6,rfl,ho6,hL6⟩
    obtain ⟨kk,hkk⟩ : ∃ kk : Int,kk = if i = 2 then 6 else 5 := ⟨_,rfl⟩
    obtain ⟨nn,hnn⟩ : ∃ nn : Int,nn = if i = 1 then 1 else 0 := ⟨_,rfl⟩
    have hsi : simpleI i = .mk kk nn [] ⟨#[]⟩ [] := by
     rw [hkk,hnn]
     rcases (show i = 0 ∨ i = 1 ∨ i = 2 by omega) with rfl | rfl | rfl <;> rfl
    have hix2 : ∀ W, (Instr.index 336 (.agg #[i64 5, u64 0, .slice none 0 0, .string ⟨#[]⟩, .slice none 0 0, i64 5, u64 1, .slice none 0 0, .string ⟨#[]⟩, .slice none 0 0, i64 6, u64 0, .slice none 0 0, .string ⟨#[]⟩, .slice none 0 0]) (i64 i)).run Tryz.prog W = .ok (.agg #[i64 kk, u64 nn, .slice none 0 0, .string ⟨#[]⟩, .slice none 0 0]) W := fun W => by
     rw [hkk,hnn]
     rcases (show i = 0 ∨ i = 1 ∨ i = 2 by omega) with rfl | rfl | rfl <;> kernel_rfl
    have hP : itemP tx (f + 1) bs = .ok (simpleI i, bs.drop 1) := by
     rcases (show i = 0 ∨ i = 1 ∨ i = 2 by omega) with rfl | rfl | rfl
     ·simp only [itemP]
      rw [if_pos (by simpa using hb)]
     ·simp only [itemP]
      rw [if_neg (by simpa using hno 0 (by omega)),if_pos (by simpa using hb)]
     ·simp only [itemP]
      rw [if_neg (by simpa using hno 0 (by omega)),if_neg (by simpa using hno 1 (by omega)),if_pos (by simpa using hb)]
    have b6 := (b3.ext hE35).mod hM6 hrne
    simp [e4,hix2,b6.c0,b6.c1,b6.c2,b6.c3,b6.c4,b6.fz,cell_setCell]
    have m7 := five_mod w6 w.heap.size (i64 kk) (u64 nn) (.slice none 0 0) (.string ⟨#[]⟩) (.slice none 0 0)
    rw [hP,hsi]
    refine ⟨?_,⟨_,rfl,leaf_it kk nn⟩,hL6.mod m7 fun j hj => ⟨by have := h.ext.size; omega,by omega⟩⟩
    exact ((((hE1.trans hE3).trans hE35).mod.trans hM6).trans' m7 fun j hj => .inr (by omega))
  ·obtain rfl : i = 3 := by omega
   have hP : itemP tx (f + 1) bs = headedP tx (itemP tx f) bs := by
    simp only [itemP]
    rw [if_neg (by simpa using hno 0 (by omega)),if_neg (by simpa using hno 1 (by omega)),if_neg (by simpa using hno 2 (by omega))]
   rw [hP] at hne ⊢
   simp [e0,e17]
   have hrh := rhead_c hL3
   refine FN.mono hrh ?_
   rintro e5 w5 ⟨hM5,hp5⟩
   have hM05 : Mod (fun k => k = r) w w5 := (hE1.trans hE3).mod.trans hM5
   unfold headedP at hne ⊢
   cases ho : headP bs with
   | none =>
    rw [ho] at hp5
    obtain rfl : e5 = _ := hp5
    simp
    exact ⟨hM05,rfl⟩
   | some q =>
    obtain ⟨mj,n,rest⟩ := q
    rw [ho] at hp5 hne
    obtain ⟨rfl,hL5⟩ := hp5
    simp only at hne ⊢
    have b5 := b3.mod hM5 hrne
    obtain ⟨hmb,hnb,pre,hpre,-⟩ := headP_b h.ok ho
    have hrl := h.lt
    unfold tailP at hne ⊢
    by_cases g0 : mj = 0
    ·subst g0
     simp [e4,b5.c0,b5.c1,b5.c2,b5.c3,b5.c4,b5.fz,cell_setCell]
     exact ri_fin hM05 hrl (leaf_it 1 n) hL5
    have q0 : (mj == 0) = false := by simpa using g0
    rw [if_neg g0] at hne ⊢
    by_cases g2 : mj = 2
    ·subst g2
     simp [e0]
     by_cases hnl : n ≤ (rest.length : Int)
     ·obtain ⟨k,rfl⟩ : ∃ k : Nat,n = k := ⟨n.toNat,by omega⟩
      have hkl : k ≤ rest.length := by omega
      refine FN.mono (take_t hL5 hkl) ?_
      rintro _ w6 ⟨hM6,v6,rfl,ho6,hL6⟩
      obtain ⟨a6,c6,rfl⟩ := own_val ho6
      have b6 := b5.mod hM6 hrne
      simp [e4,b6.c0,b6.c1,b6.c2,b6.c3,b6.c4,b6.fz,cell_setCell,hkl]
      refine ri_fin (hM05.trans hM6) hrl (itP_mk.2 ⟨_, _, [], rfl, ?_, SlB.nil _ 5 0, fun hb => ?_, fun h => (h rfl).elim, itPs_nil, ?_, by simp⟩) hL6
      ·rw [List.length_take,Nat.min_eq_left hkl]; exact (sl_of_own ho6).toB
      ·have hz := own_nil ho6 (by
        rcases Nat.eq_zero_or_pos k with hk | hk
        ·subst hk; simp at hb
        ·exact hk)
       have := own_ge ho6 hz
       have := hM05.size
       have := hE3.size
       have := hM5.size
       omega
      ·have := hL5.len; rw [List.length_take]; omega
     ·refine FN.mono (take_f hL5 (n := n) (by omega)) ?_
      rintro _ w6 ⟨rfl,hw6⟩
      subst hw6
      simp
      rw [if_neg hnl]
      exact ⟨hM05,rfl⟩
    have q2 : (mj == 2) = false := by simpa using g2
    rw [if_neg g2] at hne ⊢
    by_cases g3 : mj = 3
    ·subst g3
     simp [e0]
     by_cases hnl : n ≤ (rest.length : Int)
     ·rw [if_pos hnl] at hne ⊢
      obtain ⟨k,rfl⟩ : ∃ k : Nat,n = k := ⟨n.toNat,by omega⟩
      have hkl : k ≤ rest.length := by omega
      simp only [Int.toNat_natCast] at hne ⊢
      refine FN.mono (take_t hL5 hkl) ?_
      rintro _ w6 ⟨hM6,v6,rfl,ho6,hL6⟩
      have b6 := b5.mod hM6 hrne
      have hS6 : SlB w6 1 v6 (rest.take k).length ((rest.take k).map u8) := by rw [List.length_take,Nat.min_eq_left hkl]; exact (sl_of_own ho6).toB
      have hcv := conv_b hS6
      obtain ⟨s,hs⟩ : ∃ s,s = strOfNums (rest.take k) := ⟨_,rfl⟩
      rw [← hs] at hcv hne ⊢
      simp [hcv]
      cases htx : tx s with
      | none => rw [htx] at hne; exact (hne rfl).elim
      | some b =>
       have hru := hT s b htx w6 hL6.ext
       refine FN.mono hru ?_
       rintro _ w7 ⟨⟨nr,rfl⟩,hE7⟩
       have b7 := b6.ext hE7
       have hM07 := (hM05.trans hM6).trans hE7.mod
       cases b with
       | true =>
        simp
        refine FN.mono (must_c 121 w7) ?_
        rintro _ w8 ⟨⟨u8',rfl⟩,hw8⟩
        subst hw8
        simp [e4,b7.c0,b7.c1,b7.c2,b7.c3,b7.c4,b7.fz,cell_setCell]
        exact ri_fin hM07 hrl (itP_mk.2 ⟨_,_,[],rfl,SlB.nil _ 1 0,SlB.nil _ 5 0,fun h => (h rfl).elim,fun h => (h rfl).elim,itPs_nil,by simp,by simp⟩) (hL6.more hE7)
       | false =>
        simp
        refine FN.mono (cmust_f 121 w7) ?_
        rintro _ w8 ⟨rfl,hw8⟩
        subst hw8
        simp
        exact ⟨hM07,rfl⟩
     ·refine FN.mono (take_f hL5 (n := n) (by omega)) ?_
      rintro _ w6 ⟨rfl,hw6⟩
      subst hw6
      simp
      rw [if_neg hnl]
      exact ⟨hM05,rfl⟩
    have q3 : (mj == 3) = false := by simpa using g3
    rw [if_neg g3] at hne ⊢
    by_cases g4 : mj = 4
    ·subst g4
     rw [if_pos rfl] at hne ⊢
     simp
     refine FN.mono (must_c 121 w5) ?_
     rintro _ w6 ⟨⟨u6,rfl⟩,hw6⟩
     subst hw6
     simp
     have hE7 : Ext w6 (w6.alloc (.cells #[i64 4,u64 0,.slice none 0 0,.string ⟨#[]⟩,.slice none 0 0] 160)) := (Ext.refl _).alloc _
     have x7 : ItBx (w6.alloc (.cells #[i64 4,u64 0,.slice none 0 0,.string ⟨#[]⟩,.slice none 0 0] 160)) w6.heap.size 4 0 (.slice none 0 0) ⟨#[]⟩ (.slice none 0 0) := ItBx.new w6 _ _ _ _ _ 160
     have z7 : (w6.alloc (.cells #[i64 4,u64 0,.slice none 0 0,.string ⟨#[]⟩,.slice none 0 0] 160)).heap.size = w6.heap.size + 1 := by simp
     have hs6 := hM05.size
     obtain ⟨xb,hxb⟩ : ∃ xb,xb = w6.heap.size := ⟨_,rfl⟩
     rw [← hxb] at x7 z7 ⊢
     generalize (w6.alloc (.cells #[i64 4,u64 0,.slice none 0 0,.string ⟨#[]⟩,.slice none 0 0] 160)) = w7 at *
     have hxr : ¬ xb = r := by omega
     have hb6 : w.heap.size < xb := by have := b5.lt; omega
     obtain ⟨N,hN⟩ : ∃ N : Nat,n = N := ⟨n.toNat,by omega⟩
     subst hN
     simp only [Int.toNat_natCast] at hne ⊢
     refine WC_loop (fun m ρ ds w' => ∃ (k : Nat) (rest' : List Int) (l : List It) (u : Value) (css : List (List Value)), m = k ∧ ρ 0 = ptr r ∧ ρ 1 = i64 inn ∧ ρ 4 = ptr w.heap.size ∧ ρ 8 = u64 k ∧ ρ 12 = ptr xb ∧ ds = [] ∧ k ≤ N ∧
      LsI w0 w w7 w' r xb rest rest' l u css (itemP tx f) N k) N ⟨N,rest,[],.slice none 0 0,[],rfl,by simp [e0],by simp [e1],by simp [e4],by simp,by simp,rfl,Nat.le_refl _,?_⟩ ?_
     ·refine ⟨hL5.more hE7,x7,World.ownsRow_nil _ _ _ _,itPs_nil,hM05.trans hE7.mod,b5.ext hE7,Nat.le_refl _,by simp,?_⟩
      cases listP (itemP tx f) N rest with
      | error c => rfl
      | ok q => rfl
     ·rintro m ρ ds w8 ⟨k,rest',l,u,css,rfl,f0,f1,f4,f8,f12,rfl,hkN,hI⟩
      obtain ⟨ua,uc,rfl⟩ := own_val hI.own
      have hx8 := hI.x
      have hr8 := hI.res
      cases m with
      | zero =>
       simp [f4,f8,f12,hx8.c0,hx8.c1,hx8.c2,hx8.c3,hx8.c4,hr8.c0,hr8.c1,hr8.c2,hr8.c3,hr8.c4,hr8.fz,cell_setCell]
       have heq := hI.eq
       simp only [listP,List.append_nil] at heq
       rw [heq]
       refine ri_fin hI.mod hrl ?_ hI.lf
       refine list_it (sl_of_own hI.own).toB (hI.it.go (Mod.refl (fun _ => False) _) fun k _ hk => ⟨by omega,id⟩) (fun hl => ?_) (by have := hI.len; have := hL5.len; omega)
       have := own_ge hI.own (own_nil hI.own (List.length_pos_iff.2 hl))
       omega
      | succ k =>
       simp [f8]
       refine WC_drawZ 7 (.F 0 <| .F 1 <| .F 2 <| .F 3 <| .F 4 <| .C 5 <| .C 6 <| .Z) (fun k => decide (k = r)) (fun k => decide (k = r)) (fun _ _ _ => True) (fun ch w' => Mod (fun k => k = r) w w' ∧ ∃ c, listP (itemP tx f) N rest = .error c ∧ ch = panV c) rfl (by kernel_rfl) (fun _ h => h) (fun _ _ _ _ _ _ => trivial) ?_ fun W hW => ?_
       ·rintro ch ρ' w' ⟨h1,c,h2,rfl⟩
        simp
        rw [h2]
        exact ⟨h1,rfl⟩
       have hWE : Ext w8 W := hW ▸ Ext.drew _
       have xW := hx8.ext hWE
       have hLW := hI.lf.more hWE
       have hin1 : IntKind.i64.wrap (inn + 1) = 8 - (f : Int) := by rw [wrap64 _ (by omega) (by omega)]; omega
       simp [f0,f1,f12,hxr,xW.c4,hin1]
       have hnp : itemP tx f rest' ≠ .error (-1) := fun e => by
        have heq := hI.eq
        simp only [listP,e] at heq
        rw [heq] at hne
        exact hne rfl
       have hih := ritem_c hT f (by omega) hLW hnp
       refine FN.mono hih ?_
       rintro e9 w9 ⟨hM9,hp9⟩
       cases hq : itemP tx f rest' with
       | error c =>
        rw [hq] at hp9
        obtain rfl : e9 = _ := hp9
        simp
        have heq := hI.eq
        simp only [listP,hq] at heq
        exact ⟨(hI.mod.trans hWE.mod).trans hM9,heq⟩
       | ok q =>
        obtain ⟨t,rest2⟩ := q
        rw [hq] at hp9
        obtain ⟨⟨cs,rfl,hit⟩,hL9⟩ := hp9
        obtain ⟨va,vm,vc,va',vm',vc',hcs⟩ := itC_form hit.any
        have hc1 : ∀ u ∈ cs,u.oneCell' = true := by rw [hcs]; simp [Value.oneCell']
        have hE10 : Ext w9 (w9.alloc (.cells cs.toArray 160)) := (Ext.refl _).alloc _
        have h1 : Sl (w9.alloc (.cells cs.toArray 160)) 5 (.slice (some ⟨w9.heap.size,0,none⟩) 1 1) 1 cs := Sl.made w9 cs 160 5 1 (by rw [hcs]; rfl)
        have hM89 : Mod (fun k => k = r) w8 w9 := hWE.mod.trans hM9
        have ho10 := own_ext (own_keep hI.own fun hn hl => hM89.blk _ hl (by have := own_ge hI.own hn; have := hI.sz; omega)) hE10
        have s8 := hI.sz
        have s9 := hM89.size
        have s10 := hE10.size
        have hlen := hI.len
        have hl65 := hL5.len
        obtain ⟨v',w11,hr,ho11,hM11,hnew⟩ := append_own (P := Tryz.prog) (t := 158) (ty := 158) (e := 160) (s := 5) (by simp) (by simp) (by kernel_rfl) ho10 h1 hc1 (by omega) (by omega)
        obtain ⟨na,nc,rfl⟩ := own_val ho11
        rw [hcs] at hr hE10 hM11
        rw [hcs]
        simp [f0,f1]
        refine KR_mk (hM9.agr fun i hi => by simpa using hi) ?_
        simp
        refine KR_ext hE10 ?_
        have hul : slN (.slice ua l.length uc) = false → w7.heap.size ≤ slB (.slice ua l.length uc) ∧ slB (.slice ua l.length uc) < w8.heap.size := fun hn => by
         obtain ⟨c,hc⟩ := own_obj hI.own hn
         exact ⟨own_ge hI.own hn,(Array.getElem?_eq_some_iff.1 hc).1⟩
        have hM811 : Mod (fun j => j = r ∨ (slN (.slice ua l.length uc) = false ∧ j = slB (.slice ua l.length uc))) w8 w11 := ((hM89.weaken fun _ h => .inl h).trans hE10.mod).trans (hM11.weaken fun _ h => .inr h)
        have hb8 := hx8.lt
        have x11 := hx8.mod hM811 (fun h => by
         rcases h with h | ⟨h, h'⟩
         ·exact hxr h
         ·have := (hul h).1; omega)
        have hM12 : Mod (fun j => j = xb) w11 (w11.setCell ⟨xb,4,none⟩ (.slice na (l.length + 1) nc)) := (Mod.refl _ _).setC _ _
        have x12 : ItBx (w11.setCell ⟨xb, 4, none⟩ (.slice na (l.length + 1) nc)) xb 4 0 (.slice none 0 0) ⟨#[]⟩ (.slice na (l.length + 1) nc) :=
         ⟨by simp [x11.c0,cell_setCell],by simp [x11.c1,cell_setCell],by simp [x11.c2,cell_setCell],by simp [x11.c3,cell_setCell],by simp [x11.c4,cell_setCell],fun j => by simp [x11.fz j]⟩
        have hkw : IntKind.u64.wrap (k : Int) = k := by simp [IntKind.wrap,IntKind.signed,IntKind.bits]; omega
        simp [f0,f1,f4,f8,f12,hr,x11.c4,x11.fz,hkw]
        have hpre := itemP_lt (tx := tx) f rest' t rest2 hI.lf.ok hq
        obtain ⟨pre,hpre1,hpre2⟩ := hpre
        have hplen : rest2.length + 1 ≤ rest'.length := by
         rw [hpre1,List.length_append]
         have := List.length_pos_iff.2 hpre2
         omega
        have hM812 : Mod (fun j => j = r ∨ (slN (.slice ua l.length uc) = false ∧ j = slB (.slice ua l.length uc)) ∨ j = xb) w8 (w11.setCell ⟨xb, 4, none⟩ (.slice na (l.length + 1) nc)) := (hM811.weaken fun j h => by
         rcases h with h | h
         ·exact .inl h
         ·exact .inr (.inl h)).trans (hM12.weaken fun j h => .inr (.inr h))
        have hsz12 := hM812.size
        have hrlt := h.lt
        have hws := hI.mod.size
        refine ⟨k, by omega, rfl, by omega, rest2, l ++ [t], _, css ++ [cs], ?_, x12, ?_, ?_, ?_, ?_, by omega, ?_, ?_⟩
        ·refine ((hL9.more hE10).mod hM11 fun j hj => ⟨?_, ?_⟩).mod hM12 fun j hj => ⟨?_, ?_⟩
         ·have := (hul hj.1).1; have := h.le; omega
         ·have := (hul hj.1).1; omega
         ·have := h.le; omega
         ·omega
        ·have := own_keep ho11 (w' := w11.setCell ⟨xb,4,none⟩ (.slice na (l.length + 1) nc)) fun hn hl => hM12.blk _ hl (by have := own_ge ho11 hn; omega)
         simpa using this
        ·have hW8 := hWE.size
         have hit11 := (ItP.ext hit hE10).go (Pd' := fun j => W.heap.size ≤ j ∧ j < w9.heap.size + 1) hM11 (fun j hlt hp => ⟨⟨hp,by simpa using hlt⟩,fun hh => by have := (hul hh.1).2; omega⟩)
         have hit12 := hit11.go (Pd' := fun j => w7.heap.size ≤ j ∧ (slN (.slice na (l.length + 1) nc) = false → j ≠ slB (.slice na (l.length + 1) nc))) hM12 (fun j hlt hp => ⟨⟨by omega, fun hn e => by
          rcases hnew hn with ⟨h1, h2⟩ | h2
          ·have := (hul h1).2; omega
          ·simp at h2; omega⟩,by omega⟩)
         have hold12 := hI.it.go (Pd' := fun j => w7.heap.size ≤ j ∧ (slN (.slice na (l.length + 1) nc) = false → j ≠ slB (.slice na (l.length + 1) nc))) hM812 (fun j hj hp => ⟨⟨hp.1, fun hn e => by
          rcases hnew hn with ⟨h1, h2⟩ | h2
          ·exact hp.2 h1 (by omega)
          ·omega⟩,fun hh => by
          rcases hh with h | ⟨h, h'⟩ | h
          ·omega
          ·exact hp.2 h h'
          ·omega⟩)
         exact hold12.snoc hit12
        ·exact hI.mod.trans' hM812 fun j hj => by
          rcases hj with h | ⟨h, h'⟩ | h
          ·exact .inl h
          ·have := (hul h).1; exact .inr (by omega)
          ·exact .inr (by omega)
        ·refine hr8.mod hM812 fun hj => ?_
         rcases hj with h | ⟨h, h'⟩ | h
         ·exact hrne h
         ·have := (hul h).1; omega
         ·omega
        ·simp; omega
        ·have heq := hI.eq
         simp only [listP,hq] at heq
         rw [heq]
         cases listP (itemP tx f) k rest2 with
         | error c => rfl
         | ok q => simp
    ·have q4 : (mj == 4) = false := by simpa using g4
     rw [if_neg g4]
     simp [q0,q2,q3,q4]
     refine FN.mono (cmust_f 121 w5) ?_
     rintro _ w6 ⟨rfl,hw6⟩
     subst hw6
     simp
     exact ⟨hM05,rfl⟩
end Go.Proofs