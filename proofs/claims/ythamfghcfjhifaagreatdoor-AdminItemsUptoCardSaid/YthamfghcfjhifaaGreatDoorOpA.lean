/-
  Contracts of the functions that the law reaches, step by step.
-/
import Derived.ProofKit
import Derived.OpenShut
import Derived.Test.YthamfghcfjhifaaGreatDoorAdA
import Derived.Test.YthamfghcfjhifaaGreatDoorEngR
import Derived.Test.YthamfghcfjhifaaGreatDoorAgQ
import Derived.Test.YthamfghcfjhifaaGreatDoorAeT
namespace Go.Proofs
open Go.ChangeShapes Go.WideShapes Go.ChangeAt Go.RowKit Go.Deep Pk
set_option maxRecDepth 10000
section
variable {H : Type} {enc : TypeId × Value → H} {P : Program}
/-- A row that is given, opened: each element is read with less fuel. -/
theorem open_rawG {W : World} {x : DataW H × List MemPlace} {fuel : Nat} {cs : List Value} {t e : TypeId} {z : Nat} (ht : P.underlying t = some (.slice e)) (hc : P.cellsOf e = z) (h0 : 0 < z)
    (hf : DataW.trod enc P W 0 (fun _ => true) true fuel t cs = some x) :
    ∃ (a : Option Addr) (len cap : Nat) (f : Nat → List Value), cs = [.slice a len cap] ∧ len ≤ maxLen ∧ SlB W z (.slice a len cap) len ((List.range len).flatMap f) ∧ ∀ i, i < len → (f i).length = z ∧ ∃ n y, n < fuel ∧ DataW.trod enc P W 0 (fun _ => true) true n e (f i) = some y := by
  rcases DataW.trod_slice ht hf with ⟨rfl, -⟩ | ⟨a', len, cap, elems, rest, n, hn, rfl, rfl, hb, hle, hm, hlen, hel, -, -⟩
  · exact ⟨_, _, _, fun _ => [], rfl, by omega, SlB.nil _ _ _, fun i hi => by omega⟩
  · have each : ∀ i, i < len → ∃ cs : List Value, cs.length = z ∧ (∃ y, DataW.trod enc P W 0 (fun _ => true) true n e cs = some y) ∧ ∀ j u, cs[j]? = some u → W.cell? (a'.add (i * z + j)) = some u := by
      intro i hi
      have h1 := hel i hi
      rw [List.getElem?_eq_getElem (by omega)] at h1
      obtain ⟨cs', h2, h3⟩ := Option.bind_eq_some_iff.1 h1
      rw [hc] at h2
      obtain ⟨_, hlen, hcell⟩ := World.cells?_some h2
      refine ⟨cs', hlen, ⟨_, h3⟩, fun j u hj => ?_⟩
      have hjl := (List.getElem?_eq_some_iff.1 hj).1
      have := hcell j (by omega)
      rw [add_add] at this
      rw [this]; exact hj
    obtain ⟨f, hfx⟩ := choose_lt each
    have hfl : ∀ i, i < len → (f i).length = z := fun i hi => (hfx i hi).1
    obtain ⟨g1, g2⟩ := flatMap_at f len hfl
    have hsp : 0 < len → ∃ b o, a' = ⟨b, o, none⟩ := by
      intro h
      have hl0 := hfl 0 h
      have := (hfx 0 h).2.2 0 (f 0)[0] (by simp [hl0, h0])
      obtain ⟨b, o, sp⟩ := a'
      cases sp with
      | none => exact ⟨b, o, rfl⟩
      | some s => simp [Addr.add, World.cell?] at this; split at this <;> simp_all
    refine ⟨some a', len, cap, f, rfl, by omega, ⟨g1, ⟨some a', _, rfl, hle, fun h => ?_⟩, ?_⟩, fun i hi => ⟨hfl i hi, n, (hfx i hi).2.1.choose, by omega, (hfx i hi).2.1.choose_spec⟩⟩
    · obtain ⟨b, o, rfl⟩ := hsp h
      exact ⟨b, o, rfl⟩
    · intro j u hj
      have hjl := (List.getElem?_eq_some_iff.1 hj).1
      rw [g1] at hjl
      have hi : j / z < len := (Nat.div_lt_iff_lt_mul h0).2 hjl
      obtain ⟨b, o, rfl⟩ := hsp (Nat.lt_of_le_of_lt (Nat.zero_le _) hi)
      have hdm := Nat.div_add_mod j z
      have hml := Nat.mod_lt j h0
      have e : j / z * z + j % z = j := by rw [Nat.mul_comm]; exact hdm
      have h3 := g2 (j / z) (j % z) hi hml
      rw [e, hj] at h3
      have := (hfx _ hi).2.2 _ _ h3.symm
      rw [e] at this
      simpa [slB, slO] using this
theorem trod_struct5 {W : World} {t : TypeId} {f0 f1 f2 f3 f4 : Field} {fuel : Nat} {cs : List Value} {x : DataW H × List MemPlace} (ht : P.underlying t = some (.struct #[f0, f1, f2, f3, f4])) (h : DataW.trod enc P W 0 (fun _ => true) true fuel t cs = some x) :
    ∃ y0 y1 y2 y3 y4 n, fuel = n + 1 ∧ cs.length = P.cellsOf t ∧ DataW.trod enc P W 0 (fun _ => true) true n f0.type ((cs.drop f0.offset).take (P.cellsOf f0.type)) = some y0 ∧
      DataW.trod enc P W 0 (fun _ => true) true n f1.type ((cs.drop f1.offset).take (P.cellsOf f1.type)) = some y1 ∧ DataW.trod enc P W 0 (fun _ => true) true n f2.type ((cs.drop f2.offset).take (P.cellsOf f2.type)) = some y2 ∧
      DataW.trod enc P W 0 (fun _ => true) true n f3.type ((cs.drop f3.offset).take (P.cellsOf f3.type)) = some y3 ∧ DataW.trod enc P W 0 (fun _ => true) true n f4.type ((cs.drop f4.offset).take (P.cellsOf f4.type)) = some y4 := by
  obtain ⟨xs, n, hn, -, hl, hlen, hf⟩ := DataW.trod_struct ht h
  match xs, hlen with
  | [y0, y1, y2, y3, y4], _ => exact ⟨y0, y1, y2, y3, y4, n, hn, hl, by simpa using hf 0 f0 rfl, by simpa using hf 1 f1 rfl, by simpa using hf 2 f2 rfl, by simpa using hf 3 f3 rfl, by simpa using hf 4 f4 rfl⟩
end
/-- An item whose numbers are in range. -/
inductive ItOk : It → Prop
  | mk (k n : Int) (b : List Int) (s : ByteArray) (l : List It) (hk : -9223372036854775808 ≤ k ∧ k ≤ 9223372036854775807) (hn : 0 ≤ n ∧ n ≤ 18446744073709551615) (hb : ∀ x ∈ b, 0 ≤ x ∧ x ≤ 255) (hl : ∀ x ∈ l, ItOk x) : ItOk (.mk k n b s l)
/-- Bytes that are given. -/
theorem open_bytesF {H : Type} {enc : TypeId × Value → H} {W : World} {x : DataW H × List MemPlace} {fuel : Nat} {cs : List Value} (hf : DataW.trod enc Tryz.prog W 0 (fun _ => true) true fuel 31 cs = some x) :
    ∃ (a : Option Addr) (n c : Nat) (b : List Int), cs = [.slice a n c] ∧ n = b.length ∧ SlB W 1 (.slice a n c) b.length (b.map u8) ∧ (∀ y ∈ b, 0 ≤ y ∧ y ≤ 255) ∧ b.length ≤ 9223372036854775807 := by
  have kb : Tryz.prog.cellsOf 5 = 1 := by kernel_rfl
  have hmx : maxLen = 9223372036854775807 := by decide
  obtain ⟨a, n, c, f2, rfl, hm2, hs2, hf2⟩ := open_rawG Tryz.underlying31 kb (by decide) hf
  have each2 : ∀ i, i < n → ∃ b : Int, f2 i = [u8 b] ∧ 0 ≤ b ∧ b ≤ 255 := fun i hi => by
    obtain ⟨-, n', y, -, h⟩ := hf2 i hi
    obtain ⟨b, e, -, w⟩ := DataW.trod_int Tryz.underlying5 h
    exact ⟨b, e, bounds_u8 w⟩
  obtain ⟨gb, hgb⟩ := choose_lt each2
  refine ⟨a, n, c, (List.range n).map gb, rfl, by simp, ?_, fun y hy => ?_, by simp; omega⟩
  · have e : ((List.range n).map gb).map u8 = (List.range n).flatMap f2 := by
      rw [List.map_map, List.flatMap_def]
      have : (List.range n).map f2 = (List.range n).map fun i => [u8 (gb i)] := List.map_congr_left fun i hi => (hgb i (by simpa using hi)).1
      rw [this, ← List.flatMap_def]
      simp only [Function.comp_def]
      exact (List.map_eq_flatMap).trans rfl
    rw [e]
    simpa using hs2
  · obtain ⟨i, hi, rfl⟩ := List.mem_map.1 hy
    exact (hgb i (by simpa using hi)).2
theorem open_bytes {H : Type} {enc : TypeId × Value → H} {W : World} {v : Value} {d : DataW H} {ps : List MemPlace} (h : DataW.Trod enc Tryz.prog W 0 (fun _ => true) true 31 v d ps) (hv : ∃ a n c, v = .slice a n c) :
    ∃ b : List Int, SlB W 1 v b.length (b.map u8) ∧ (∀ y ∈ b, 0 ≤ y ∧ y ≤ 255) ∧ b.length ≤ 9223372036854775807 := by
  obtain ⟨a, n, c, rfl⟩ := hv
  obtain ⟨fuel, hf⟩ := h
  obtain ⟨a', n', c', b, e, rfl, hs, hb, hl⟩ := open_bytesF hf
  simp [Value.cells] at e
  obtain ⟨rfl, rfl, rfl⟩ := e
  exact ⟨b, hs, hb, hl⟩
instance : Inhabited It := ⟨.mk 0 0 [] ⟨#[]⟩ []⟩
end Go.Proofs
namespace Go.Proofs
open Pk
set_option maxRecDepth 10000
attribute [local simp] beq_dec bne_dec
theorem decRec_some {bs : List Int} {t : It} {r : Rec} (h : decP txA bs = .ok t) (ho : ofD t = some r) : decRec bs = (r, 0) := by unfold decRec; simp only [h, ho]
theorem decRec_none {bs : List Int} {t : It} (h : decP txA bs = .ok t) (ho : ofD t = none) : decRec bs = (rec0, 180) := by unfold decRec; simp only [h, ho]
theorem decRec_err {bs : List Int} {c : Int} (h : decP txA bs = .error c) : decRec bs = (rec0, c) := by unfold decRec; simp only [h]
theorem decRec_0 {bs : List Int} (hok : ∀ x ∈ bs, 0 ≤ x ∧ x ≤ 255) (h : (decRec bs).2 = 0) : RecOk (decRec bs).1 ∧ rightE (decRec bs).1 = 0 ∧ bs = bytesR (decRec bs).1 := by
  cases hx : decP txA bs with
  | error c =>
    rw [decRec_err hx] at h
    simp only at h
    subst h
    have : firstP txA bs = .error 0 ∨ (0 : Int) = 121 := by
      unfold decP at hx
      split at hx
      · rename_i hf; cases hx; exact .inl hf
      · split at hx
        · cases hx
        · cases hx
    rcases this with h | h
    · have := firstP_code h; unfold codeOk at this; omega
    · omega
  | ok t =>
    obtain ⟨hcd, hbs⟩ := decP_cd hok hx
    cases ho : ofD t with
    | none => rw [decRec_none hx ho] at h; simp at h
    | some r =>
      obtain ⟨h0, ht⟩ := ofD_inv ho
      rw [decRec_some hx ho]
      exact ⟨ofD_ok hcd ho, h0, by unfold bytesR; rw [← ht]; exact hbs⟩
set_option maxHeartbeats 2000000 in
theorem lawBytes_c {w : World} (hT : Tabs w) {v : Value} {bs : List Int} (h : SlB w 1 v bs.length (bs.map u8)) (hok : ∀ x ∈ bs, 0 ≤ x ∧ x ≤ 255) : FN Tryz.prog 5 [v] w fun e w' => e = .returned (.bool true) ∧ Ext w w' := by
  refine FN_enter Tryz.func5 rfl rfl (by kernel_rfl) ?_
  have hlen := fun ty W => h.isLen (P := Tryz.prog) (t := 31) (by simp) ty W
  by_cases hl : 1000 < bs.length
  · have hl' : (1000 : Int) < bs.length := by omega
    simp [hlen, hl']
    refine FN.mono (works_c w) ?_
    rintro _ w2 ⟨rfl, hE⟩
    simp
    exact hE
  have hl' : ¬ (1000 : Int) < bs.length := by omega
  simp [hlen, hl']
  refine FN.mono (adecodeA_c hT h hok (by omega)) ?_
  rintro _ w1 ⟨rfl, hE1⟩
  obtain ⟨r, hr⟩ : ∃ r, (decRec bs).1 = r := ⟨_, rfl⟩
  obtain ⟨c, hc⟩ : ∃ c, (decRec bs).2 = c := ⟨_, rfl⟩
  rw [hr, hc]
  have hE2 : Ext w1 (w1.alloc (.cells #[i64 r.kind, u32 r.nn, u32 r.ns, u64 r.nt, u32 r.nq, i64 r.what, i64 r.why, u64 r.at', u64 r.num, u32 r.node, u32 r.reg, .bool r.yes, u64 r.fro, u64 r.til, u8 r.lev] 30)) := (Ext.refl w1).alloc _
  have x2 : Blk (w1.alloc (.cells #[i64 r.kind, u32 r.nn, u32 r.ns, u64 r.nt, u32 r.nq, i64 r.what, i64 r.why, u64 r.at', u64 r.num, u32 r.node, u32 r.reg, .bool r.yes, u64 r.fro, u64 r.til, u8 r.lev] 30)) w1.heap.size (recC r) := Blk.new w1 (recC r) 30
  simp
  generalize (w1.alloc (.cells #[i64 r.kind, u32 r.nn, u32 r.ns, u64 r.nt, u32 r.nq, i64 r.what, i64 r.why, u64 r.at', u64 r.num, u32 r.node, u32 r.reg, .bool r.yes, u64 r.fro, u64 r.til, u8 r.lev] 30)) = w2 at *
  have hE02 := hE1.trans hE2
  refine FN.mono (rdecode_c (hT.ext hE02) (h.ext hE02) hok) ?_
  rintro _ w3 ⟨rfl, hE3⟩
  rw [hr, hc]
  have hE4 : Ext w3 (w3.alloc (.cells #[i64 r.kind, u32 r.nn, u32 r.ns, u64 r.nt, u32 r.nq, i64 r.what, i64 r.why, u64 r.at', u64 r.num, u32 r.node, u32 r.reg, .bool r.yes, u64 r.fro, u64 r.til, u8 r.lev] 30)) := (Ext.refl w3).alloc _
  have x4 : Blk (w3.alloc (.cells #[i64 r.kind, u32 r.nn, u32 r.ns, u64 r.nt, u32 r.nq, i64 r.what, i64 r.why, u64 r.at', u64 r.num, u32 r.node, u32 r.reg, .bool r.yes, u64 r.fro, u64 r.til, u8 r.lev] 30)) w3.heap.size (recC r) := Blk.new w3 (recC r) 30
  have y3 := x2.ext hE3
  have y4 := y3.ext hE4
  have hq := fun W => neqRec r r W
  simp at hq
  simp [y3.cell 0 _ rfl, y3.cell 1 _ rfl, y3.cell 2 _ rfl, y3.cell 3 _ rfl, y3.cell 4 _ rfl, y3.cell 5 _ rfl, y3.cell 6 _ rfl, y3.cell 7 _ rfl, y3.cell 8 _ rfl, y3.cell 9 _ rfl, y3.cell 10 _ rfl, y3.cell 11 _ rfl, y3.cell 12 _ rfl, y3.cell 13 _ rfl, y3.cell 14 _ rfl, hq]
  generalize (w3.alloc (.cells #[i64 r.kind, u32 r.nn, u32 r.ns, u64 r.nt, u32 r.nq, i64 r.what, i64 r.why, u64 r.at', u64 r.num, u32 r.node, u32 r.reg, .bool r.yes, u64 r.fro, u64 r.til, u8 r.lev] 30)) = w4 at *
  have hE04 := hE02.trans (hE3.trans hE4)
  refine FN.mono (num_c c w4) ?_
  rintro _ w5 ⟨rfl, rfl⟩
  simp
  by_cases h0 : c = 0
  · subst h0
    obtain ⟨hro, hr0, hbs⟩ := decRec_0 hok hc
    rw [hr] at hro hr0 hbs
    simp [y4.cell 0 _ rfl, y4.cell 1 _ rfl, y4.cell 2 _ rfl, y4.cell 3 _ rfl, y4.cell 4 _ rfl, y4.cell 5 _ rfl, y4.cell 6 _ rfl, y4.cell 7 _ rfl, y4.cell 8 _ rfl, y4.cell 9 _ rfl, y4.cell 10 _ rfl, y4.cell 11 _ rfl, y4.cell 12 _ rfl, y4.cell 13 _ rfl, y4.cell 14 _ rfl]
    refine FN.mono (aencode_c hro w5) ?_
    rintro _ w6 hN
    obtain ⟨v6, rfl, hv6⟩ := hN.ok hr0
    have cv1 := conv_b hv6.toB
    have cv2 := conv_b (h.ext (hE04.trans hN.ext))
    rw [← hbs] at cv1
    simp [cv1, cv2]
    refine FN.mono (num_c 0 w6) ?_
    rintro _ w7 ⟨rfl, rfl⟩
    simp
    refine FN.mono (works_c w7) ?_
    rintro _ w8 ⟨rfl, hE8⟩
    simp
    exact (hE04.trans hN.ext).trans hE8
  · simp [h0]
    refine FN.mono (works_c w5) ?_
    rintro _ w8 ⟨rfl, hE8⟩
    simp
    exact hE04.trans hE8
end Go.Proofs
