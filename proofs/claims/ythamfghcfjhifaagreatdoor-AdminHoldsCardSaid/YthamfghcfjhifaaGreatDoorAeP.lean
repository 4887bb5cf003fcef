/-
  Contracts of the functions that the law reaches, step by step.
-/
import Derived.Test.YthamfghcfjhifaaGreatDoorAeL
namespace Go.Proofs
open Pk
set_option maxRecDepth 10000
theorem right_inv {r : Rec} (h : rightE r = 0) : (1 ≤ r.kind ∧ r.kind ≤ 5) ∧ fineR r = true ∧ r.num ≤ 4294967295 ∧ (r.at' ≤ 4611686018427387903 ∧ r.fro ≤ 4611686018427387903 ∧ r.til ≤ 4611686018427387903) ∧ bareR r = r := by
  unfold rightE at h
  split at h
  · rename_i hk
    unfold chk at h
    split at h
    · rename_i hf
      split at h
      · cases h
      · rename_i hn
        split at h
        · rename_i ht
          split at h
          · rename_i hb
            exact ⟨hk, hf, by omega, times3 ht, of_decide_eq_true hb⟩
          · cases h
        · cases h
    · cases h
  · cases h
theorem right_two {r : Rec} (h : rightE r ≠ 0) : rightE r = 2 := by
  unfold rightE chk at *
  split
  · split
    · split
      · rfl
      · split
        · split
          · simp_all
          · rfl
        · rfl
    · rfl
  · rfl
theorem lay_of {r : Rec} (hr : RecOk r) (h : rightE r = 0) : ∃ s fl fr ff, mget kdL r.kind = some [.string s, fnV fl, fnV fr, fnV ff] ∧ LaysI fl r (partsR r) ∧ (0 < (partsR r).length ∧ (partsR r).length ≤ 5) ∧ ∀ x ∈ partsR r, PartOk x := by
  obtain ⟨hk, hf, hn, ht, -⟩ := right_inv h
  have hcase : r.kind = 1 ∨ r.kind = 2 ∨ r.kind = 3 ∨ r.kind = 4 ∨ r.kind = 5 := by omega
  have h1 := hr.num
  have h2 := hr.node
  have h3 := hr.reg
  have h4 := hr.at'
  have h5 := hr.fro
  have h6 := hr.til
  have h7 := hr.lev
  unfold partsR
  rcases hcase with e | e | e | e | e
  · rw [if_pos e]
    unfold fineR at hf
    rw [if_pos e] at hf
    obtain ⟨i1, i2, i3, i4, i5⟩ := repF_inv hf
    refine ⟨_, 101, 104, 107, by rw [e]; rfl, rep_layI hr i1 (by omega) i4, by simp [repI], fun x hx => ?_⟩
    simp only [repI, List.mem_cons, List.not_mem_nil, or_false] at hx
    rcases hx with rfl | rfl | rfl | rfl
    · exact part_name ⟨hr.nn, hr.ns, hr.nq⟩ hr.nt
    · exact part_uint (by omega) (by omega)
    · exact part_uint (by omega) (by omega)
    · exact part_uint (by omega) (by omega)
  · rw [if_neg (by omega), if_pos e]
    refine ⟨_, 58, 61, 64, by rw [e]; rfl, ask_layI hr, by simp [askI], fun x hx => ?_⟩
    simp only [askI, List.mem_cons, List.not_mem_nil, or_false] at hx
    rcases hx with rfl | rfl | rfl <;> exact part_uint (by omega) (by omega)
  · rw [if_neg (by omega), if_neg (by omega), if_pos e]
    refine ⟨_, 65, 67, 64, by rw [e]; rfl, tell_layI hr, by simp [tellI], fun x hx => ?_⟩
    simp only [tellI, List.mem_cons, List.not_mem_nil, or_false] at hx
    rcases hx with rfl | rfl | rfl | rfl | rfl
    · exact part_uint (by omega) (by omega)
    · exact part_uint (by omega) (by omega)
    · exact part_uint (by omega) (by omega)
    · exact part_bool _
    · exact part_uint (by omega) (by omega)
  · rw [if_neg (by omega), if_neg (by omega), if_neg (by omega), if_pos e]
    refine ⟨_, 70, 72, 74, by rw [e]; rfl, fore_layI hr, by simp [foreI], fun x hx => ?_⟩
    simp only [foreI, List.mem_cons, List.not_mem_nil, or_false] at hx
    rcases hx with rfl | rfl | rfl | rfl <;> exact part_uint (by omega) (by omega)
  · rw [if_neg (by omega), if_neg (by omega), if_neg (by omega), if_neg (by omega)]
    refine ⟨_, 76, 77, 64, by rw [e]; rfl, mem_layI hr, by simp [memI], fun x hx => ?_⟩
    simp only [memI, List.mem_cons, List.not_mem_nil, or_false] at hx
    rcases hx with rfl | rfl | rfl | rfl
    · exact part_uint (by omega) (by omega)
    · exact part_uint (by omega) (by omega)
    · exact part_uint (by omega) (by omega)
    · exact part_bool _
def bytesR (r : Rec) : List Int := bytesI (itemR r)
theorem itemR_ok {r : Rec} (hk : 1 ≤ r.kind ∧ r.kind ≤ 5) (hp : ∀ x ∈ partsR r, PartOk x) (hl : (partsR r).length ≤ 5) : Rdy 5 (itemR r) ∧ (bytesR r).length ≤ 2000 := by
  have all : ∀ x ∈ uintI r.kind :: partsR r, PartOk x := fun x hx => by
    rcases List.mem_cons.1 hx with rfl | hx
    · exact part_uint (by omega) (by omega)
    · exact hp x hx
  refine ⟨.list 4 _ (by simp only [List.length_cons]; omega) fun x hx => (all x hx).1, ?_⟩
  have := list_len (m := 200) fun x hx => (all x hx).2
  simp only [List.length_cons] at this
  unfold bytesR itemR
  omega
theorem kd_lookF {r : Nat} {w : World} (hm : MapAt (Value.int .i64) agE w r kdL) {k : Int} {kd : List Value} (hk : mget kdL k = some kd) (W : World) (hW : Ext w W) :
    (Instr.lookup 72 (.map (some r)) (i64 k) false).run Tryz.prog W = .ok (agE kd) W := by
  have := (hm.ext hW).lookup (P := Tryz.prog) krk tkd (zkd W) k false
  rw [hk] at this
  simpa using this
structure EnR (w w' : World) (r : Rec) (e : Ending) : Prop where
  ext : Ext w w'
  ok : rightE r = 0 → ∃ v, e = .returned (.tuple #[v, i64 0]) ∧ Sl w' 1 v (bytesR r).length ((bytesR r).map u8)
  no : rightE r ≠ 0 → e = .returned (.tuple #[.slice none 0 0, i64 2])
set_option maxHeartbeats 1000000 in
theorem aencode_c {r : Rec} (hr : RecOk r) (w : World) : FN Tryz.prog 9 [recV r] w fun e w' => EnR w w' r e := by
  refine FN_enter Tryz.func9 rfl rfl (by kernel_rfl) ?_
  simp
  have hE1 : Ext w (w.alloc (.cells #[i64 r.kind, u32 r.nn, u32 r.ns, u64 r.nt, u32 r.nq, i64 r.what, i64 r.why, u64 r.at', u64 r.num, u32 r.node, u32 r.reg, .bool r.yes, u64 r.fro, u64 r.til, u8 r.lev] 30)) := (Ext.refl w).alloc _
  have o1 : Blk (w.alloc (.cells #[i64 r.kind, u32 r.nn, u32 r.ns, u64 r.nt, u32 r.nq, i64 r.what, i64 r.why, u64 r.at', u64 r.num, u32 r.node, u32 r.reg, .bool r.yes, u64 r.fro, u64 r.til, u8 r.lev] 30)) w.heap.size (recC r) := Blk.new w (recC r) 30
  generalize (w.alloc (.cells #[i64 r.kind, u32 r.nn, u32 r.ns, u64 r.nt, u32 r.nq, i64 r.what, i64 r.why, u64 r.at', u64 r.num, u32 r.node, u32 r.reg, .bool r.yes, u64 r.fro, u64 r.til, u8 r.lev] 30)) = w1 at *
  refine FN.mono (check_c hr w1) ?_
  rintro _ w2 ⟨rfl, hE2⟩
  have o2 := o1.ext hE2
  by_cases h0 : rightE r = 0
  · obtain ⟨s, fl, fr, ff, hk, hl, ⟨hl0, hl5⟩, hp⟩ := lay_of hr h0
    obtain ⟨hkk, -⟩ := right_inv h0
    obtain ⟨hrdy, hlen⟩ := itemR_ok hkk hp hl5
    simp [h0]
    refine WC_drawC 9 (.F 1 <| .F 2 <| .F 4 <| .C 0 <| .C 3 <| .C 5 <| .C 6 <| .F 7 <| .F 8 <| .Z) (fun _ => false) rfl (by kernel_rfl) fun W hW => ?_
    have hWE : Ext w2 W := hW ▸ Ext.drew _
    have p := o2.ext hWE
    simp [p.cell 0 _ rfl, p.cell 1 _ rfl, p.cell 2 _ rfl, p.cell 3 _ rfl, p.cell 4 _ rfl, p.cell 5 _ rfl, p.cell 6 _ rfl, p.cell 7 _ rfl, p.cell 8 _ rfl, p.cell 9 _ rfl, p.cell 10 _ rfl, p.cell 11 _ rfl, p.cell 12 _ rfl, p.cell 13 _ rfl, p.cell 14 _ rfl]
    refine FN.mono (kinds_c W) ?_
    rintro _ W4 ⟨mr, rfl, hm, hE4⟩
    simp
    refine KR_ext hE4 ?_
    simp [kd_lookF hm hk W4 (Ext.refl _)]
    refine KR_same ?_
    simp
    refine FN.mono (laidI_c hl hl0 (by omega) ⟨by omega, by omega⟩ W4) ?_
    rintro _ W5 ⟨v5, rfl, ⟨a5, m5, c5, rfl⟩, hit5, hE5⟩
    simp
    refine KR_ext hE5 ?_
    simp
    have hd8 : DepLe 8 (itemR r) := (hrdy.up.up.up).dep
    have hen := encode_c hrdy.fine hd8 (hrdy.wr (by unfold bytesR at hlen; omega)) (by unfold bytesR at hlen; omega) hit5.any
    refine FN.mono (hen) ?_
    rintro _ W6 ⟨v6, rfl, hS6, hE6⟩
    simp
    refine KR_ext hE6 ?_
    simp
    exact ⟨(hE1.trans hE2).trans (hWE.trans (hE4.trans (hE5.trans hE6))), fun _ => ⟨_, rfl, hS6⟩, fun h => (h h0).elim⟩
  · have h2 := right_two h0
    simp [h2]
    exact ⟨hE1.trans hE2, fun h => (h0 h).elim, fun _ => rfl⟩
end Go.Proofs
