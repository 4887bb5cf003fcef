/-
  Contracts of the functions that the law reaches, step by step.
-/
import Derived.Test.YthamfghcfjhifaaGreatDoorAgT
import Derived.Test.YthamfghcfjhifaaGreatDoorOpA
namespace Go.Proofs
open Pk
set_option maxRecDepth 10000
attribute [local simp] beq_dec bne_dec
theorem decRec_of {t : It} (h : Cd txA 8 t) (hl : (bytesI t).length ≤ 65536) : decRec (bytesI t) = (match ofD t with | none => (rec0, 180) | some r => (r, 0)) := by
  have hd := decP_back h hl
  cases ho : ofD t with
  | none => exact decRec_none hd ho
  | some r => exact decRec_some hd ho
theorem Cd.bytes {d : Nat} {t : It} {tx : ByteArray → Option Bool} (h : Cd tx d t) : ∀ x ∈ bytesI t, 0 ≤ x ∧ x ≤ 255 := by
  induction h with
  | uint d n h0 h1 => rw [bytesI_uint]; exact headB_ok (by omega) h0
  | byts d b hb =>
    rw [bytesI, if_neg (by decide), if_pos rfl]
    intro x hx
    rcases List.mem_append.1 hx with h | h
    · exact headB_ok (by omega) (by omega) x h
    · exact hb x h
  | text d s hs =>
    rw [bytesI, if_neg (by decide), if_neg (by decide), if_pos rfl]
    intro x hx
    rcases List.mem_append.1 hx with h | h
    · exact headB_ok (by omega) (by omega) x h
    · obtain ⟨c, -, rfl⟩ := List.mem_map.1 h
      have := c.toNat_lt
      omega
  | bool d n h => rw [bytesI_bool]; intro x hx; simp at hx; omega
  | null d => rw [show bytesI (.mk 6 0 [] ⟨#[]⟩ []) = [246] by rw [bytesI]; simp]; intro x hx; simp at hx; omega
  | list d l h ih =>
    rw [bytesI_list]
    intro x hx
    rcases List.mem_append.1 hx with h' | h'
    · exact headB_ok (by omega) (by omega) x h'
    · exact bytesL_ok ih x h'
set_option maxHeartbeats 4000000 in
theorem lawItems_c {w : World} (hT : Tabs w) {v : Value} {l : List It} {css : List (List Value)} (h : SlB w 5 v l.length css.flatten) (hc : ItCs w l css) (hok : ∀ x ∈ l, ItOk x) (hsz : szL l ≤ 1048576) : FN Tryz.prog 6 [v] w fun e w' => e = .returned (.bool true) ∧ Ext w w' := by
  refine FN_enter Tryz.func6 rfl rfl (by kernel_rfl) ?_
  have hlen := fun ty W => h.isLen (P := Tryz.prog) (t := 48) (by simp) ty W
  obtain ⟨va, vc, rfl⟩ := h.isSlice
  have hll := szL_len l
  have hszX : szT (listI l) = 6 + szL l := by rw [szT_e]; rfl
  have hokX : ItOk (listI l) := .mk 4 0 [] _ l (by omega) (by omega) (by simp) hok
  have hitX : ∀ W, Ext w W → ItC W (listI l) [i64 4, u64 0, .slice none 0 0, .string ⟨#[]⟩, .slice va l.length vc] := fun W hW => list_it (h.ext hW) (hc.ext hW) (fun _ => trivial) (by omega)
  simp
  refine FN.mono (rlist_c va l.length vc w) ?_
  rintro _ w1 ⟨rfl, hE1⟩
  simp
  have x2 : ItBx (w1.alloc (.cells #[i64 4, u64 0, .slice none 0 0, .string ⟨#[]⟩, .slice va l.length vc] 51)) w1.heap.size 4 0 (.slice none 0 0) ⟨#[]⟩ (.slice va l.length vc) := ItBx.new w1 _ _ _ _ _ 51
  have hE2 : Ext w1 (w1.alloc (.cells #[i64 4, u64 0, .slice none 0 0, .string ⟨#[]⟩, .slice va l.length vc] 51)) := (Ext.refl _).alloc _
  obtain ⟨xb, hxb⟩ : ∃ xb, xb = w1.heap.size := ⟨_, rfl⟩
  rw [← hxb] at x2 ⊢
  generalize (w1.alloc (.cells #[i64 4, u64 0, .slice none 0 0, .string ⟨#[]⟩, .slice va l.length vc] 51)) = w2 at *
  have hE02 := hE1.trans hE2
  by_cases h10 : 10 < l.length
  · have h10' : (10 : Int) < l.length := by omega
    simp [h10']
    refine FN.mono (works_c w2) ?_
    rintro _ w3 ⟨rfl, hE⟩
    simp
    exact hE02.trans hE
  have h10' : ¬ (10 : Int) < l.length := by omega
  simp [h10', x2.c0, x2.c1, x2.c2, x2.c3, x2.c4]
  refine FN.mono (rdepth_c (by omega) (hitX w2 hE02)) ?_
  rintro _ w3 ⟨rfl, hE3⟩
  have hE03 := hE02.trans hE3
  have x3 := x2.ext hE3
  by_cases hd : 6 < depT (listI l)
  · have hd' : (6 : Int) < depT (listI l) := by omega
    simp [hd']
    refine FN.mono (works_c w3) ?_
    rintro _ w4 ⟨rfl, hE⟩
    simp
    exact hE03.trans hE
  have hd' : ¬ (6 : Int) < depT (listI l) := by omega
  simp [hd', x3.c0, x3.c1, x3.c2, x3.c3, x3.c4]
  refine FN.mono (rcheck_c hokX (by omega) (hitX w3 hE03)) ?_
  rintro _ w4 ⟨rfl, hE4⟩
  have hE04 := hE03.trans hE4
  have x4 := x3.ext hE4
  by_cases hk : chkI (listI l) = 0
  case neg =>
    simp [hk]
    refine FN.mono (works_c w4) ?_
    rintro _ w5 ⟨rfl, hE⟩
    simp
    exact hE04.trans hE
  simp [hk]
  have hr : rightT (listI l) = true := by
    unfold chkI at hk
    split at hk
    · assumption
    · cases hk
  have hbl : (bytesI (listI l)).length ≤ 65536 := by
    unfold chkI at hk
    rw [if_pos hr, if_neg (by omega)] at hk
    split at hk
    · cases hk
    · omega
  have hcd := cd_of_right _ (listI l) (Nat.le_refl _) hokX hr
  have hcd8 := hcd.up (show depT (listI l) ≤ 8 by omega)
  have len := fun ty W => (h.isLen (P := Tryz.prog) (t := 48) (by simp) ty W)
  refine WC_loop (fun j ρ ds w' => ∃ (i : Nat), j = l.length - i ∧ i ≤ l.length ∧ ρ 0 = .slice va l.length vc ∧ ρ 3 = ptr xb ∧ ρ 4 = i64 i ∧ ds = [] ∧ w' = w4) l.length
    ⟨0, by simp, by omega, by simp, by simp, by simp, rfl, rfl⟩ ?_
  rintro j ρ ds w5 ⟨i, rfl, hi, e0, e3, e4, rfl, rfl⟩
  by_cases hlt : i < l.length
  · obtain ⟨q1, n1, b1, s1, v1, g1, c1, r1⟩ := itRow (h.ext hE04) (hc.ext hE04) hlt
    obtain ⟨⟨ba1, bm1, bc1, rfl⟩, ⟨la1, lm1, lc1, rfl⟩⟩ := itC_slices c1
    have i1 := (h.ext hE04).index (P := Tryz.prog) (t := 48) (by simp) .i64 i (by omega) (by omega) w5
    simp at i1
    have hw1 : IntKind.i64.wrap ((i : Int) + 1) = i + 1 := wrap64 _ (by omega) (by omega)
    by_cases a1 : 6 < lm1
    · have a1' : (6 : Int) < lm1 := by omega
      simp [e0, e4, hlt, i1, r1.c4, a1']
      refine FN.mono (works_c w5) ?_
      rintro _ w6 ⟨rfl, hE⟩
      simp
      exact hE04.trans hE
    have a1' : ¬ (6 : Int) < lm1 := by omega
    by_cases a2 : 100 < bm1
    · have a2' : (100 : Int) < bm1 := by omega
      simp [e0, e4, hlt, i1, r1.c2, r1.c4, a1', a2']
      refine FN.mono (works_c w5) ?_
      rintro _ w6 ⟨rfl, hE⟩
      simp
      exact hE04.trans hE
    have a2' : ¬ (100 : Int) < bm1 := by omega
    by_cases a3 : 100 < s1.size
    · have a3' : (100 : Int) < s1.size := by omega
      simp [e0, e4, hlt, i1, r1.c2, r1.c3, r1.c4, a1', a2', a3']
      refine FN.mono (works_c w5) ?_
      rintro _ w6 ⟨rfl, hE⟩
      simp
      exact hE04.trans hE
    have a3' : ¬ (100 : Int) < s1.size := by omega
    simp [e0, e3, e4, hlt, i1, r1.c2, r1.c3, r1.c4, a1', a2', a3', hw1]
    exact ⟨l.length - (i + 1), by omega, i + 1, rfl, by omega, by push_cast; rfl⟩
  · have : i = l.length := by omega
    subst this
    simp [e0, e3, e4, x4.c0, x4.c1, x4.c2, x4.c3, x4.c4]
    refine FN.mono (docBytesA_c hcd _ w5 (hitX w5 hE04) (by omega)) ?_
    rintro _ w6 ⟨v6, rfl, ho6, hE6⟩
    have hE06 := hE04.trans hE6
    have x6 := x4.ext hE6
    simp
    refine FN.mono (adecodeA_c (hT.ext hE06) (sl_of_own ho6).toB hcd.bytes hbl) ?_
    rintro _ w7 ⟨rfl, hE7⟩
    have hdr := decRec_of hcd8 hbl
    have x7 := x6.ext hE7
    have hE07 := hE06.trans hE7
    obtain ⟨r, hr'⟩ : ∃ r, (decRec (bytesI (listI l))).1 = r := ⟨_, rfl⟩
    obtain ⟨c, hc'⟩ : ∃ c, (decRec (bytesI (listI l))).2 = c := ⟨_, rfl⟩
    rw [hr', hc']
    have hE8 : Ext w7 (w7.alloc (.cells #[i64 r.kind, u32 r.nn, u32 r.ns, u64 r.nt, u32 r.nq, i64 r.what, i64 r.why, u64 r.at', u64 r.num, u32 r.node, u32 r.reg, .bool r.yes, u64 r.fro, u64 r.til, u8 r.lev] 30)) := (Ext.refl w7).alloc _
    have y8 : Blk (w7.alloc (.cells #[i64 r.kind, u32 r.nn, u32 r.ns, u64 r.nt, u32 r.nq, i64 r.what, i64 r.why, u64 r.at', u64 r.num, u32 r.node, u32 r.reg, .bool r.yes, u64 r.fro, u64 r.til, u8 r.lev] 30)) w7.heap.size (recC r) := Blk.new w7 (recC r) 30
    simp [e3, x7.c0, x7.c1, x7.c2, x7.c3, x7.c4]
    have z8 : (w7.alloc (.cells #[i64 r.kind, u32 r.nn, u32 r.ns, u64 r.nt, u32 r.nq, i64 r.what, i64 r.why, u64 r.at', u64 r.num, u32 r.node, u32 r.reg, .bool r.yes, u64 r.fro, u64 r.til, u8 r.lev] 30)).heap.size = w7.heap.size + 1 := by simp
    obtain ⟨yb, hyb⟩ : ∃ yb, yb = w7.heap.size := ⟨_, rfl⟩
    rw [← hyb] at y8 ⊢
    generalize (w7.alloc (.cells #[i64 r.kind, u32 r.nn, u32 r.ns, u64 r.nt, u32 r.nq, i64 r.what, i64 r.why, u64 r.at', u64 r.num, u32 r.node, u32 r.reg, .bool r.yes, u64 r.fro, u64 r.til, u8 r.lev] 30)) = w8 at *
    have hE08 := hE07.trans hE8
    refine FN.mono (rofRec_c (hitX w8 hE08) hcd.nn.1 hcd.nn.2.1 hcd.nn.2.2) ?_
    rintro _ w9 ⟨rfl, hE9⟩
    have y9 := y8.ext hE9
    have hE09 := hE08.trans hE9
    have hq := fun W => eqRec r r W
    simp at hq
    cases ho : ofD (listI l) with
    | none =>
      rw [ho] at hdr
      simp only at hdr
      rw [hdr] at hr' hc'
      simp only at hr' hc'
      subst hr'
      subst hc'
      simp [ofV, y9.cell 0 _ rfl, y9.cell 1 _ rfl, y9.cell 2 _ rfl, y9.cell 3 _ rfl, y9.cell 4 _ rfl, y9.cell 5 _ rfl, y9.cell 6 _ rfl, y9.cell 7 _ rfl, y9.cell 8 _ rfl, y9.cell 9 _ rfl, y9.cell 10 _ rfl, y9.cell 11 _ rfl, y9.cell 12 _ rfl, y9.cell 13 _ rfl, y9.cell 14 _ rfl, hq]
      have hE10 := hE09.trans ((Ext.refl w9).alloc (.cells #[i64 rec0.kind, u32 rec0.nn, u32 rec0.ns, u64 rec0.nt, u32 rec0.nq, i64 rec0.what, i64 rec0.why, u64 rec0.at', u64 rec0.num, u32 rec0.node, u32 rec0.reg, .bool rec0.yes, u64 rec0.fro, u64 rec0.til, u8 rec0.lev] 30))
      generalize (w9.alloc (.cells #[i64 rec0.kind, u32 rec0.nn, u32 rec0.ns, u64 rec0.nt, u32 rec0.nq, i64 rec0.what, i64 rec0.why, u64 rec0.at', u64 rec0.num, u32 rec0.node, u32 rec0.reg, .bool rec0.yes, u64 rec0.fro, u64 rec0.til, u8 rec0.lev] 30)) = w10 at *
      refine FN.mono (num_c 180 w10) ?_
      rintro _ w11 ⟨rfl, rfl⟩
      simp
      refine FN.mono (num_c 180 w11) ?_
      rintro _ w12 ⟨rfl, rfl⟩
      simp
      refine FN.mono (works_c w12) ?_
      rintro _ w13 ⟨rfl, hE13⟩
      simp
      exact hE10.trans hE13
    | some r' =>
      rw [ho] at hdr
      simp only at hdr
      rw [hdr] at hr' hc'
      simp only at hr' hc'
      subst hr'
      subst hc'
      simp [ofV, y9.cell 0 _ rfl, y9.cell 1 _ rfl, y9.cell 2 _ rfl, y9.cell 3 _ rfl, y9.cell 4 _ rfl, y9.cell 5 _ rfl, y9.cell 6 _ rfl, y9.cell 7 _ rfl, y9.cell 8 _ rfl, y9.cell 9 _ rfl, y9.cell 10 _ rfl, y9.cell 11 _ rfl, y9.cell 12 _ rfl, y9.cell 13 _ rfl, y9.cell 14 _ rfl, hq]
      have hE10 := hE09.trans ((Ext.refl w9).alloc (.cells #[i64 r'.kind, u32 r'.nn, u32 r'.ns, u64 r'.nt, u32 r'.nq, i64 r'.what, i64 r'.why, u64 r'.at', u64 r'.num, u32 r'.node, u32 r'.reg, .bool r'.yes, u64 r'.fro, u64 r'.til, u8 r'.lev] 30))
      generalize (w9.alloc (.cells #[i64 r'.kind, u32 r'.nn, u32 r'.ns, u64 r'.nt, u32 r'.nq, i64 r'.what, i64 r'.why, u64 r'.at', u64 r'.num, u32 r'.node, u32 r'.reg, .bool r'.yes, u64 r'.fro, u64 r'.til, u8 r'.lev] 30)) = w10 at *
      refine FN.mono (num_c 0 w10) ?_
      rintro _ w11 ⟨rfl, rfl⟩
      simp
      refine FN.mono (works_c w11) ?_
      rintro _ w13 ⟨rfl, hE13⟩
      simp
      exact hE10.trans hE13
end Go.Proofs
