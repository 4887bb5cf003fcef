/-
 Contracts of the functions that the law reaches,step by step.
-/
import Derived.ProofKit
import Derived.OpenShut
import Derived.Test.YtmmneeomcefgbaaGreatDoorHoA
import Derived.Test.YtmmneeomcefgbaaGreatDoorEngR
namespace Go.Proofs
open Go.ChangeShapes Go.WideShapes Go.ChangeAt Go.RowKit Go.Deep Pk
set_option maxRecDepth 10000
section
variable {H : Type} {enc : TypeId × Value → H} {P : Program}
theorem open_rawB {W : World} {x : DataW H × List MemPlace} {fuel : Nat} {a : Option Addr} {len cap : Nat} {t e : TypeId} {m : Nat} {l : List CK} (ht : P.underlying t = some (.slice e)) (hl : flat P m e = some l) (hc : P.cellsOf e = l.length) (h0 : 0 < l.length)
  (hf : DataW.trod enc P W 0 (fun _ => true) true fuel t [.slice a len cap] = some x) :
  ∃ f : Nat → List Value,SlB W l.length (.slice a len cap) len ((List.range len).flatMap f) ∧ ∀ i,i < len → Fit l (f i) := by
 rcases open_slice ht hf with ⟨h1, -⟩ | ⟨a', len', cap', m', n, D, Pl, h1, hb, hle, hm, hmm, hx, hel⟩
 ·simp at h1
  obtain ⟨rfl,rfl,rfl⟩ := h1
  exact ⟨fun _ => [],SlB.nil _ _ _,fun i hi => by omega⟩
 ·simp at h1
  obtain ⟨rfl,rfl,rfl⟩ := h1
  simp at hmm
  subst hmm
  have each : ∀ i, i < len → ∃ cs : List Value, Fit l cs ∧ ∀ j u, cs[j]? = some u → W.cell? (a'.add (i * l.length + j)) = some u := by
   intro i hi
   obtain ⟨cs',h2,h3⟩ := hel i (by omega)
   rw [hc] at h2
   obtain ⟨_,hlen,hcell⟩ := World.cells?_some h2
   refine ⟨cs',trod_flat m e l hl _ _ _ h3,fun j u hj => ?_⟩
   have hjl := (List.getElem?_eq_some_iff.1 hj).1
   have := hcell j (by omega)
   rw [add_add] at this
   rw [this]; exact hj
  obtain ⟨f,hfx⟩ := choose_lt each
  have hfl : ∀ i,i < len → (f i).length = l.length := fun i hi => ((hfx i hi).1.length).symm
  obtain ⟨g1,g2⟩ := flatMap_at f len hfl
  have hsp : 0 < len → ∃ b o, a' = ⟨b, o, none⟩ := by
   intro h
   have hl0 := hfl 0 h
   have := (hfx 0 h).2 0 (f 0)[0] (by simp [hl0,h0])
   obtain ⟨b,o,sp⟩ := a'
   cases sp with
   | none => exact ⟨b,o,rfl⟩
   | some s => simp [Addr.add,World.cell?] at this; split at this <;> simp_all
  refine ⟨f, ⟨g1, ⟨some a', _, rfl, hle, fun h => ?_⟩, ?_⟩, fun i hi => (hfx i hi).1⟩
  ·obtain ⟨b,o,rfl⟩ := hsp h
   exact ⟨b,o,rfl⟩
  ·intro j u hj
   have hjl := (List.getElem?_eq_some_iff.1 hj).1
   rw [g1] at hjl
   have hi : j / l.length < len := (Nat.div_lt_iff_lt_mul h0).2 hjl
   obtain ⟨b,o,rfl⟩ := hsp (Nat.lt_of_le_of_lt (Nat.zero_le _) hi)
   have hdm := Nat.div_add_mod j l.length
   have hml := Nat.mod_lt j h0
   have e : j / l.length * l.length + j % l.length = j := by rw [Nat.mul_comm]; exact hdm
   have h3 := g2 (j / l.length) (j % l.length) hi hml
   rw [e,hj] at h3
   have := (hfx _ hi).2 _ _ h3.symm
   rw [e] at this
   simpa [slB,slO] using this
theorem open_rawC {W : World} {x : DataW H × List MemPlace} {fuel : Nat} {b : Value} {t e : TypeId} {m : Nat} {l : List CK} (ht : P.underlying t = some (.slice e)) (hl : flat P m e = some l) (hc : P.cellsOf e = l.length) (h0 : 0 < l.length)
  (hf : DataW.trod enc P W 0 (fun _ => true) true fuel t [b] = some x) :
  ∃ (n : Nat) (f : Nat → List Value),SlB W l.length b n ((List.range n).flatMap f) ∧ ∀ i,i < n → Fit l (f i) := by
 have hb : ∃ x len cap, b = .slice x len cap := by
  rcases open_slice ht hf with ⟨h1, -⟩ | ⟨a', len', cap', m', n, D, Pl, h1, -⟩
  ·simp at h1; exact ⟨_,_,_,h1⟩
  ·simp at h1; exact ⟨_,_,_,h1⟩
 obtain ⟨x,len,cap,rfl⟩ := hb
 obtain ⟨f,h1,h2⟩ := open_rawB ht hl hc h0 hf
 exact ⟨len,f,h1,h2⟩
theorem open_elsB {α : Type} (g : α → List Value) (ok : α → Prop) {s : Nat} {l : List CK} {W : World} {v : Value} {n : Nat} {f : Nat → List Value} (hfit : ∀ cs, Fit l cs → ∃ x, cs = g x ∧ ok x) (h : SlB W s v n ((List.range n).flatMap f)) (hf : ∀ i, i < n → Fit l (f i)) :
  ∃ L : List α,SlB W s v L.length (L.flatMap g) ∧ ∀ q ∈ L,ok q := by
 have each : ∀ k, k ≤ n → ∃ L : List α, L.length = k ∧ L.flatMap g = (List.range k).flatMap f ∧ ∀ q ∈ L, ok q := by
  intro k
  induction k with
  | zero => exact fun _ => ⟨[],rfl,rfl,by simp⟩
  | succ k ih =>
   intro hk
   obtain ⟨L,h1,h2,h3⟩ := ih (by omega)
   obtain ⟨x,hx,hox⟩ := hfit _ (hf k (by omega))
   refine ⟨L ++ [x], by simp [h1], ?_, fun q hq => ?_⟩
   ·rw [List.flatMap_append,h2,List.range_succ,List.flatMap_append]
    simp [hx]
   ·rcases List.mem_append.1 hq with hq | hq
    ·exact h3 q hq
    ·simp at hq; subst hq; exact hox
 obtain ⟨L,h1,h2,h3⟩ := each n (Nat.le_refl _)
 refine ⟨L,?_,h3⟩
 rw [h1,h2]
 exact h
end
theorem fit_byte {cs : List Value} (h : Fit [.int .u8] cs) : ∃ c : UInt8, cs = [encB c] ∧ True := by
 obtain ⟨x,c,rfl,w,h⟩ := fit_int h
 have hb := bounds_u8 w
 rw [h.nil]
 refine ⟨UInt8.ofNat x.toNat,?_,trivial⟩
 have : encB (UInt8.ofNat x.toNat) = u8 x := by
  show u8 _ = u8 _
  rw [UInt8.toNat_ofNat_of_lt' (show x.toNat < 256 by omega)]
  congr 1
  omega
 rw [this]
theorem fit_truth {cs : List Value} (h : Fit [.bool] cs) : ∃ c : Bool, cs = [.bool c] ∧ True := by
 obtain ⟨x,c,rfl,h'⟩ := fit_bool h
 rw [h'.nil]
 exact ⟨x,rfl,trivial⟩
theorem seg {α : Type} (cs : List α) (a k n : Nat) : (cs.drop a).take k ++ (cs.drop (a + k)).take n = (cs.drop a).take (k + n) := by
 rw [List.take_add,List.drop_drop]
theorem open_turn {H : Type} {enc : TypeId × Value → H} {W : World} {v : Value} {d : DataW H} {ps : List MemPlace} {base : Nat} (hv : Value.okWide Tryz.prog W .any base 45 v) (h : DataW.Trod enc Tryz.prog W 0 (fun _ => true) true 45 v d ps) :
  ∃ (t : Trn) (vp vk : Value),v = trV t vp vk ∧ GivR W t vp vk := by
 obtain ⟨cs,rfl,hcs⟩ := okWide_struct Tryz.underlying45 hv
 obtain ⟨fuel,hf⟩ := h
 obtain ⟨xs,n,hn,-,hl,hlen,hf⟩ := DataW.trod_struct Tryz.underlying45 hf
 have kt : Tryz.prog.cellsOf 45 = 44 := by kernel_rfl
 have k_kind : Tryz.prog.cellsOf 22 = 1 := by kernel_rfl
 have k_u32t : Tryz.prog.cellsOf 23 = 1 := by kernel_rfl
 have k_u64t : Tryz.prog.cellsOf 24 = 1 := by kernel_rfl
 have k_bool : Tryz.prog.cellsOf 4 = 1 := by kernel_rfl
 have k_byte : Tryz.prog.cellsOf 5 = 1 := by kernel_rfl
 have k_letter : Tryz.prog.cellsOf 29 = 9 := by kernel_rfl
 have k_ct : Tryz.prog.cellsOf 33 = 5 := by kernel_rfl
 have k_step : Tryz.prog.cellsOf 35 = 4 := by kernel_rfl
 have k_member : Tryz.prog.cellsOf 37 = 4 := by kernel_rfl
 have k_rec : Tryz.prog.cellsOf 42 = 15 := by kernel_rfl
 have k_bools : Tryz.prog.cellsOf 43 = 1 := by kernel_rfl
 have k_ept : Tryz.prog.cellsOf 26 = 2 := by kernel_rfl
 have k_bytes : Tryz.prog.cellsOf 27 = 1 := by kernel_rfl
 obtain ⟨cs⟩ := cs
 rw [kt] at hl
 simp only [Value.cells] at hl hf
 match xs,hlen with
 | [y0, y1, y2, y3, y4, y5, y6, y7, y8, y9, y10, y11], _ =>
  have q0 : DataW.trod enc Tryz.prog W 0 (fun _ => true) true n 22 ((cs.drop 0).take (Tryz.prog.cellsOf 22)) = some y0 := hf 0 _ rfl
  rw [k_kind] at q0
  have q1 : DataW.trod enc Tryz.prog W 0 (fun _ => true) true n 23 ((cs.drop 1).take (Tryz.prog.cellsOf 23)) = some y1 := hf 1 _ rfl
  rw [k_u32t] at q1
  have q2 : DataW.trod enc Tryz.prog W 0 (fun _ => true) true n 23 ((cs.drop 2).take (Tryz.prog.cellsOf 23)) = some y2 := hf 2 _ rfl
  rw [k_u32t] at q2
  have q3 : DataW.trod enc Tryz.prog W 0 (fun _ => true) true n 24 ((cs.drop 3).take (Tryz.prog.cellsOf 24)) = some y3 := hf 3 _ rfl
  rw [k_u64t] at q3
  have q4 : DataW.trod enc Tryz.prog W 0 (fun _ => true) true n 4 ((cs.drop 4).take (Tryz.prog.cellsOf 4)) = some y4 := hf 4 _ rfl
  rw [k_bool] at q4
  have q5 : DataW.trod enc Tryz.prog W 0 (fun _ => true) true n 5 ((cs.drop 5).take (Tryz.prog.cellsOf 5)) = some y5 := hf 5 _ rfl
  rw [k_byte] at q5
  have q6 : DataW.trod enc Tryz.prog W 0 (fun _ => true) true n 29 ((cs.drop 6).take (Tryz.prog.cellsOf 29)) = some y6 := hf 6 _ rfl
  rw [k_letter] at q6
  have q7 : DataW.trod enc Tryz.prog W 0 (fun _ => true) true n 33 ((cs.drop 15).take (Tryz.prog.cellsOf 33)) = some y7 := hf 7 _ rfl
  rw [k_ct] at q7
  have q8 : DataW.trod enc Tryz.prog W 0 (fun _ => true) true n 35 ((cs.drop 20).take (Tryz.prog.cellsOf 35)) = some y8 := hf 8 _ rfl
  rw [k_step] at q8
  have q9 : DataW.trod enc Tryz.prog W 0 (fun _ => true) true n 37 ((cs.drop 24).take (Tryz.prog.cellsOf 37)) = some y9 := hf 9 _ rfl
  rw [k_member] at q9
  have q10 : DataW.trod enc Tryz.prog W 0 (fun _ => true) true n 42 ((cs.drop 28).take (Tryz.prog.cellsOf 42)) = some y10 := hf 10 _ rfl
  rw [k_rec] at q10
  have q11 : DataW.trod enc Tryz.prog W 0 (fun _ => true) true n 43 ((cs.drop 43).take (Tryz.prog.cellsOf 43)) = some y11 := hf 11 _ rfl
  rw [k_bools] at q11
  have gF0 := trod_flat 5 22 [.int .i64] (by kernel_rfl) _ _ _ q0
  obtain ⟨a_kind,d_kind,e_kind,w_kind,h_kind⟩ := fit_int gF0
  have pF0 : (cs.drop 0).take 1 = [.int .i64 a_kind] := by rw [e_kind,h_kind.nil]
  have gF1 := trod_flat 5 23 [.int .u32] (by kernel_rfl) _ _ _ q1
  obtain ⟨a_node,d_node,e_node,w_node,h_node⟩ := fit_int gF1
  have pF1 : (cs.drop 1).take 1 = [.int .u32 a_node] := by rw [e_node,h_node.nil]
  have gF2 := trod_flat 5 23 [.int .u32] (by kernel_rfl) _ _ _ q2
  obtain ⟨a_top,d_top,e_top,w_top,h_top⟩ := fit_int gF2
  have pF2 : (cs.drop 2).take 1 = [.int .u32 a_top] := by rw [e_top,h_top.nil]
  have gF3 := trod_flat 5 24 [.int .u64] (by kernel_rfl) _ _ _ q3
  obtain ⟨a_n,d_n,e_n,w_n,h_n⟩ := fit_int gF3
  have pF3 : (cs.drop 3).take 1 = [.int .u64 a_n] := by rw [e_n,h_n.nil]
  have gF4 := trod_flat 5 4 [.bool] (by kernel_rfl) _ _ _ q4
  obtain ⟨a_yes,d_yes,e_yes,h_yes⟩ := fit_bool gF4
  have pF4 : (cs.drop 4).take 1 = [.bool a_yes] := by rw [e_yes,h_yes.nil]
  have gF5 := trod_flat 5 5 [.int .u8] (by kernel_rfl) _ _ _ q5
  obtain ⟨a_fate,d_fate,e_fate,w_fate,h_fate⟩ := fit_int gF5
  have pF5 : (cs.drop 5).take 1 = [.int .u8 a_fate] := by rw [e_fate,h_fate.nil]
  have gF7 := trod_flat 5 33 [.int .u32,.int .u32,.int .u64,.int .u64,.int .u64] (by kernel_rfl) _ _ _ q7
  obtain ⟨a_c0,d_c0,e_c0,w_c0,h_c0⟩ := fit_int gF7
  obtain ⟨a_c1,d_c1,e_c1,w_c1,h_c1⟩ := fit_int h_c0
  obtain ⟨a_c2,d_c2,e_c2,w_c2,h_c2⟩ := fit_int h_c1
  obtain ⟨a_c3,d_c3,e_c3,w_c3,h_c3⟩ := fit_int h_c2
  obtain ⟨a_c4,d_c4,e_c4,w_c4,h_c4⟩ := fit_int h_c3
  have pF7 : (cs.drop 15).take 5 = [.int .u32 a_c0,.int .u32 a_c1,.int .u64 a_c2,.int .u64 a_c3,.int .u64 a_c4] := by rw [e_c0,e_c1,e_c2,e_c3,e_c4,h_c4.nil]
  have gF8 := trod_flat 5 35 [.int .u32,.int .u32,.int .u64,.int .u64] (by kernel_rfl) _ _ _ q8
  obtain ⟨a_s0,d_s0,e_s0,w_s0,h_s0⟩ := fit_int gF8
  obtain ⟨a_s1,d_s1,e_s1,w_s1,h_s1⟩ := fit_int h_s0
  obtain ⟨a_s2,d_s2,e_s2,w_s2,h_s2⟩ := fit_int h_s1
  obtain ⟨a_s3,d_s3,e_s3,w_s3,h_s3⟩ := fit_int h_s2
  have pF8 : (cs.drop 20).take 4 = [.int .u32 a_s0,.int .u32 a_s1,.int .u64 a_s2,.int .u64 a_s3] := by rw [e_s0,e_s1,e_s2,e_s3,h_s3.nil]
  have gF9 := trod_flat 5 37 [.int .u32,.int .u32,.int .u32,.bool] (by kernel_rfl) _ _ _ q9
  obtain ⟨a_mn,d_mn,e_mn,w_mn,h_mn⟩ := fit_int gF9
  obtain ⟨a_mr,d_mr,e_mr,w_mr,h_mr⟩ := fit_int h_mn
  obtain ⟨a_me,d_me,e_me,w_me,h_me⟩ := fit_int h_mr
  obtain ⟨a_mi,d_mi,e_mi,h_mi⟩ := fit_bool h_me
  have pF9 : (cs.drop 24).take 4 = [.int .u32 a_mn,.int .u32 a_mr,.int .u32 a_me,.bool a_mi] := by rw [e_mn,e_mr,e_me,e_mi,h_mi.nil]
  have gF10 := trod_flat 5 42 [.int .i64,.int .u32,.int .u32,.int .u64,.int .u32,.int .i64,.int .i64,.int .u64,.int .u64,.int .u32,.int .u32,.bool,.int .u64,.int .u64,.int .u8] (by kernel_rfl) _ _ _ q10
  obtain ⟨a_r0,d_r0,e_r0,w_r0,h_r0⟩ := fit_int gF10
  obtain ⟨a_r1,d_r1,e_r1,w_r1,h_r1⟩ := fit_int h_r0
  obtain ⟨a_r2,d_r2,e_r2,w_r2,h_r2⟩ := fit_int h_r1
  obtain ⟨a_r3,d_r3,e_r3,w_r3,h_r3⟩ := fit_int h_r2
  obtain ⟨a_r4,d_r4,e_r4,w_r4,h_r4⟩ := fit_int h_r3
  obtain ⟨a_r5,d_r5,e_r5,w_r5,h_r5⟩ := fit_int h_r4
  obtain ⟨a_r6,d_r6,e_r6,w_r6,h_r6⟩ := fit_int h_r5
  obtain ⟨a_r7,d_r7,e_r7,w_r7,h_r7⟩ := fit_int h_r6
  obtain ⟨a_r8,d_r8,e_r8,w_r8,h_r8⟩ := fit_int h_r7
  obtain ⟨a_r9,d_r9,e_r9,w_r9,h_r9⟩ := fit_int h_r8
  obtain ⟨a_r10,d_r10,e_r10,w_r10,h_r10⟩ := fit_int h_r9
  obtain ⟨a_r11,d_r11,e_r11,h_r11⟩ := fit_bool h_r10
  obtain ⟨a_r12,d_r12,e_r12,w_r12,h_r12⟩ := fit_int h_r11
  obtain ⟨a_r13,d_r13,e_r13,w_r13,h_r13⟩ := fit_int h_r12
  obtain ⟨a_r14,d_r14,e_r14,w_r14,h_r14⟩ := fit_int h_r13
  have pF10 : (cs.drop 28).take 15 = [.int .i64 a_r0,.int .u32 a_r1,.int .u32 a_r2,.int .u64 a_r3,.int .u32 a_r4,.int .i64 a_r5,.int .i64 a_r6,.int .u64 a_r7,.int .u64 a_r8,.int .u32 a_r9,.int .u32 a_r10,.bool a_r11,.int .u64 a_r12,.int .u64 a_r13,.int .u8 a_r14] := by rw [e_r0,e_r1,e_r2,e_r3,e_r4,e_r5,e_r6,e_r7,e_r8,e_r9,e_r10,e_r11,e_r12,e_r13,e_r14,h_r14.nil]
  obtain ⟨ls,hls⟩ : ∃ ls,(cs.drop 6).take 9 = ls := ⟨_,rfl⟩
  rw [hls] at q6
  obtain ⟨xs6,n6,-,-,hl6,hlen6,hf6⟩ := DataW.trod_struct Tryz.underlying29 q6
  rw [k_letter] at hl6
  match xs6,hlen6 with
  | [z0,z1,z2,z3,z4,z5,z6],_ =>
  have r0 : DataW.trod enc Tryz.prog W 0 (fun _ => true) true n6 26 ((ls.drop 0).take (Tryz.prog.cellsOf 26)) = some z0 := hf6 0 _ rfl
  rw [k_ept] at r0
  have r1 : DataW.trod enc Tryz.prog W 0 (fun _ => true) true n6 23 ((ls.drop 2).take (Tryz.prog.cellsOf 23)) = some z1 := hf6 1 _ rfl
  rw [k_u32t] at r1
  have r2 : DataW.trod enc Tryz.prog W 0 (fun _ => true) true n6 23 ((ls.drop 3).take (Tryz.prog.cellsOf 23)) = some z2 := hf6 2 _ rfl
  rw [k_u32t] at r2
  have r3 : DataW.trod enc Tryz.prog W 0 (fun _ => true) true n6 26 ((ls.drop 4).take (Tryz.prog.cellsOf 26)) = some z3 := hf6 3 _ rfl
  rw [k_ept] at r3
  have r4 : DataW.trod enc Tryz.prog W 0 (fun _ => true) true n6 24 ((ls.drop 6).take (Tryz.prog.cellsOf 24)) = some z4 := hf6 4 _ rfl
  rw [k_u64t] at r4
  have r5 : DataW.trod enc Tryz.prog W 0 (fun _ => true) true n6 5 ((ls.drop 7).take (Tryz.prog.cellsOf 5)) = some z5 := hf6 5 _ rfl
  rw [k_byte] at r5
  have r6 : DataW.trod enc Tryz.prog W 0 (fun _ => true) true n6 27 ((ls.drop 8).take (Tryz.prog.cellsOf 27)) = some z6 := hf6 6 _ rfl
  rw [k_bytes] at r6
  have gL0 := trod_flat 5 26 [.int .u32,.int .u32] (by kernel_rfl) _ _ _ r0
  obtain ⟨a_lton,d_lton,e_lton,w_lton,h_lton⟩ := fit_int gL0
  obtain ⟨a_ltos,d_ltos,e_ltos,w_ltos,h_ltos⟩ := fit_int h_lton
  have pL0 : (ls.drop 0).take 2 = [.int .u32 a_lton,.int .u32 a_ltos] := by rw [e_lton,e_ltos,h_ltos.nil]
  have gL1 := trod_flat 5 23 [.int .u32] (by kernel_rfl) _ _ _ r1
  obtain ⟨a_lsvc,d_lsvc,e_lsvc,w_lsvc,h_lsvc⟩ := fit_int gL1
  have pL1 : (ls.drop 2).take 1 = [.int .u32 a_lsvc] := by rw [e_lsvc,h_lsvc.nil]
  have gL2 := trod_flat 5 23 [.int .u32] (by kernel_rfl) _ _ _ r2
  obtain ⟨a_lflg,d_lflg,e_lflg,w_lflg,h_lflg⟩ := fit_int gL2
  have pL2 : (ls.drop 3).take 1 = [.int .u32 a_lflg] := by rw [e_lflg,h_lflg.nil]
  have gL3 := trod_flat 5 26 [.int .u32,.int .u32] (by kernel_rfl) _ _ _ r3
  obtain ⟨a_lren,d_lren,e_lren,w_lren,h_lren⟩ := fit_int gL3
  obtain ⟨a_lres,d_lres,e_lres,w_lres,h_lres⟩ := fit_int h_lren
  have pL3 : (ls.drop 4).take 2 = [.int .u32 a_lren,.int .u32 a_lres] := by rw [e_lren,e_lres,h_lres.nil]
  have gL4 := trod_flat 5 24 [.int .u64] (by kernel_rfl) _ _ _ r4
  obtain ⟨a_life,d_life,e_life,w_life,h_life⟩ := fit_int gL4
  have pL4 : (ls.drop 6).take 1 = [.int .u64 a_life] := by rw [e_life,h_life.nil]
  have gL5 := trod_flat 5 5 [.int .u8] (by kernel_rfl) _ _ _ r5
  obtain ⟨a_lim,d_lim,e_lim,w_lim,h_lim⟩ := fit_int gL5
  have pL5 : (ls.drop 7).take 1 = [.int .u8 a_lim] := by rw [e_lim,h_lim.nil]
  have one : ∀ (l : List Value) (a n : Nat), l.length = n → a + 1 ≤ n → ∃ v, (l.drop a).take 1 = [v] := fun l a n hl ha => by
   rw [List.drop_eq_getElem_cons (by omega),List.take_succ_cons,List.take_zero]
   exact ⟨_,rfl⟩
  obtain ⟨vp,pL6⟩ := one ls 8 9 hl6 (by omega)
  obtain ⟨vk,pF11⟩ := one cs 43 44 hl (by omega)
  rw [pL6] at r6
  rw [pF11] at q11
  obtain ⟨n0,f0,s0,t0⟩ := open_rawC (m := 2) (l := [.int .u8]) (e := 5) Tryz.underlying27 (by kernel_rfl) (by kernel_rfl) (by decide) r6
  obtain ⟨n1,f1,s1,t1⟩ := open_rawC (m := 2) (l := [.bool]) (e := 4) Tryz.underlying43 (by kernel_rfl) (by kernel_rfl) (by decide) q11
  obtain ⟨P,p1,-⟩ := open_elsB (fun c : UInt8 => [encB c]) (fun _ => True) (fun _ => fit_byte) s0 t0
  obtain ⟨K,k1,-⟩ := open_elsB (fun c : Bool => [Value.bool c]) (fun _ => True) (fun _ => fit_truth) s1 t1
  rw [show P.flatMap (fun c : UInt8 => [encB c]) = P.map encB from (List.map_eq_flatMap).symm] at p1
  rw [show K.flatMap (fun c : Bool => [Value.bool c]) = K.map Value.bool from (List.map_eq_flatMap).symm] at k1
  have tL0 := pL0
  have tL1 : (ls.drop 0).take 3 = _ := (seg ls 0 2 1).symm
  rw [tL0,Nat.zero_add,pL1] at tL1
  have tL2 : (ls.drop 0).take 4 = _ := (seg ls 0 3 1).symm
  rw [tL1,Nat.zero_add,pL2] at tL2
  have tL3 : (ls.drop 0).take 6 = _ := (seg ls 0 4 2).symm
  rw [tL2,Nat.zero_add,pL3] at tL3
  have tL4 : (ls.drop 0).take 7 = _ := (seg ls 0 6 1).symm
  rw [tL3,Nat.zero_add,pL4] at tL4
  have tL5 : (ls.drop 0).take 8 = _ := (seg ls 0 7 1).symm
  rw [tL4,Nat.zero_add,pL5] at tL5
  have tL6 : (ls.drop 0).take 9 = _ := (seg ls 0 8 1).symm
  rw [tL5,Nat.zero_add,pL6] at tL6
  have eL := tL6
  rw [List.drop_zero,List.take_of_length_le (by omega)] at eL
  have pF6 := hls.trans eL
  have tF0 := pF0
  have tF1 : (cs.drop 0).take 2 = _ := (seg cs 0 1 1).symm
  rw [tF0,Nat.zero_add,pF1] at tF1
  have tF2 : (cs.drop 0).take 3 = _ := (seg cs 0 2 1).symm
  rw [tF1,Nat.zero_add,pF2] at tF2
  have tF3 : (cs.drop 0).take 4 = _ := (seg cs 0 3 1).symm
  rw [tF2,Nat.zero_add,pF3] at tF3
  have tF4 : (cs.drop 0).take 5 = _ := (seg cs 0 4 1).symm
  rw [tF3,Nat.zero_add,pF4] at tF4
  have tF5 : (cs.drop 0).take 6 = _ := (seg cs 0 5 1).symm
  rw [tF4,Nat.zero_add,pF5] at tF5
  have tF6 : (cs.drop 0).take 15 = _ := (seg cs 0 6 9).symm
  rw [tF5,Nat.zero_add,pF6] at tF6
  have tF7 : (cs.drop 0).take 20 = _ := (seg cs 0 15 5).symm
  rw [tF6,Nat.zero_add,pF7] at tF7
  have tF8 : (cs.drop 0).take 24 = _ := (seg cs 0 20 4).symm
  rw [tF7,Nat.zero_add,pF8] at tF8
  have tF9 : (cs.drop 0).take 28 = _ := (seg cs 0 24 4).symm
  rw [tF8,Nat.zero_add,pF9] at tF9
  have tF10 : (cs.drop 0).take 43 = _ := (seg cs 0 28 15).symm
  rw [tF9,Nat.zero_add,pF10] at tF10
  have tF11 : (cs.drop 0).take 44 = _ := (seg cs 0 43 1).symm
  rw [tF10,Nat.zero_add,pF11] at tF11
  have eF := tF11
  rw [List.drop_zero,List.take_of_length_le (by omega)] at eF
  refine ⟨⟨a_kind, a_node, a_top, a_n, a_yes, a_fate, a_lton, a_ltos, a_lsvc, a_lflg, a_lren, a_lres, a_life, a_lim, P, ⟨a_c0, a_c1, a_c2, a_c3, a_c4⟩, ⟨a_s0, a_s1, a_s2, a_s3⟩, a_mn, a_mr, a_me, a_mi,
   ⟨a_r0,a_r1,a_r2,a_r3,a_r4,a_r5,a_r6,a_r7,a_r8,a_r9,a_r10,a_r11,a_r12,a_r13,a_r14⟩,K⟩,vp,vk,?_,?_,?_,p1,k1⟩
  ·rw [eF]; rfl
  ·exact ⟨bounds_u32 w_node, bounds_u32 w_top, bounds_u64 w_n, bounds_u8 w_fate, bounds_u32 w_lton, bounds_u32 w_ltos, bounds_u32 w_lsvc, bounds_u32 w_lflg, bounds_u32 w_lren, bounds_u32 w_lres, bounds_u64 w_life, bounds_u8 w_lim,
    ⟨bounds_u32 w_c0,bounds_u32 w_c1,bounds_u64 w_c2,bounds_u64 w_c3,bounds_u64 w_c4⟩,⟨bounds_u32 w_s0,bounds_u32 w_s1,bounds_u64 w_s2,bounds_u64 w_s3⟩,bounds_u32 w_mn,bounds_u32 w_mr,bounds_u32 w_me⟩
  ·exact ⟨bounds_u32 w_r1,bounds_u32 w_r2,bounds_u64 w_r3,bounds_u32 w_r4,bounds_i64 w_r5,bounds_i64 w_r6,bounds_u64 w_r7,bounds_u64 w_r8,bounds_u32 w_r9,bounds_u32 w_r10,bounds_u64 w_r12,bounds_u64 w_r13,bounds_u8 w_r14⟩
end Go.Proofs