/-
  Contracts of the functions that the law reaches, step by step.
-/
import Derived.Test.YtjagbfaklckagaaGreatBdO
import Derived.Test.YtjagbfaklckagaaGreatEngAF
namespace Go.Proofs
open Pk
set_option maxRecDepth 10000
/-- Put at that place, or behind all when it is below nought. -/
def putL (l : List Rec) (i : Int) (r : Rec) : List Rec := if i < 0 then l ++ [r] else l.set i.toNat r
structure FreshR (w w' : World) (v : Value) (l : List Rec) : Prop where
  row : Sl w' 15 v l.length (l.flatMap recC)
  ge : w.heap.size ≤ slB v
  val : ∃ a c, v = .slice a l.length c
set_option maxHeartbeats 2000000 in
theorem rput_c {w : World} {v : Value} {l : List Rec} (h : Sl w 15 v l.length (l.flatMap recC)) (hb : l.length ≤ 1000) (i : Int) (hi : i < l.length) (r : Rec) : FN Tryz.prog 78 [v, i64 i, recV r] w fun e w' => ∃ v', e = .returned v' ∧ FreshR w w' v' (putL l i r) ∧ Ext w w' := by
  refine FN_enter Tryz.func78 rfl rfl (by kernel_rfl) ?_
  simp
  have hE1 : Ext w (w.alloc (.cells #[i64 r.kind, u32 r.nn, u32 r.ns, u64 r.nt, u32 r.nq, i64 r.what, i64 r.why, u64 r.at', u64 r.num, u32 r.node, u32 r.reg, .bool r.yes, u64 r.fro, u64 r.til, u8 r.lev] 38)) := (Ext.refl _).alloc _
  have o1 : Blk (w.alloc (.cells #[i64 r.kind, u32 r.nn, u32 r.ns, u64 r.nt, u32 r.nq, i64 r.what, i64 r.why, u64 r.at', u64 r.num, u32 r.node, u32 r.reg, .bool r.yes, u64 r.fro, u64 r.til, u8 r.lev] 38)) w.heap.size (recC r) := Blk.new w _ _
  have s1 : (w.alloc (.cells #[i64 r.kind, u32 r.nn, u32 r.ns, u64 r.nt, u32 r.nq, i64 r.what, i64 r.why, u64 r.at', u64 r.num, u32 r.node, u32 r.reg, .bool r.yes, u64 r.fro, u64 r.til, u8 r.lev] 38)).heap.size = w.heap.size + 1 := by simp
  rw [← s1]
  generalize (w.alloc (.cells #[i64 r.kind, u32 r.nn, u32 r.ns, u64 r.nt, u32 r.nq, i64 r.what, i64 r.why, u64 r.at', u64 r.num, u32 r.node, u32 r.reg, .bool r.yes, u64 r.fro, u64 r.til, u8 r.lev] 38)) = w1 at *
  have ho := own_empty (e := 38) (s := 15) w1 w1.heap.size (Nat.le_refl _)
  have hEa := (Ext.refl w1).alloc (.cells #[] 38)
  obtain ⟨v5, w5, hr5, ho5, hE5⟩ := append_newB (P := Tryz.prog) (t := 51) (ty := 51) (e := 38) (s := 15) (by simp) (by simp) (by kernel_rfl) ho (h.ext (hE1.trans hEa)).toB (r_one _) (by omega) hEa.size
  have o5 := o1.ext (hEa.trans hE5)
  have hX5 := hE1.trans (hEa.trans hE5)
  obtain ⟨a5, c5, hv5⟩ := own_val ho5
  simp [hr5]
  have lo := o1.lt
  by_cases hneg : i < 0
  · simp [hneg, o5.cell 0 _ rfl, o5.cell 1 _ rfl, o5.cell 2 _ rfl, o5.cell 3 _ rfl, o5.cell 4 _ rfl, o5.cell 5 _ rfl, o5.cell 6 _ rfl, o5.cell 7 _ rfl, o5.cell 8 _ rfl, o5.cell 9 _ rfl, o5.cell 10 _ rfl, o5.cell 11 _ rfl, o5.cell 12 _ rfl, o5.cell 13 _ rfl, o5.cell 14 _ rfl]
    have hEb : Ext w5 (w5.alloc (.cells #[i64 r.kind, u32 r.nn, u32 r.ns, u64 r.nt, u32 r.nq, i64 r.what, i64 r.why, u64 r.at', u64 r.num, u32 r.node, u32 r.reg, .bool r.yes, u64 r.fro, u64 r.til, u8 r.lev] 38)) := (Ext.refl _).alloc _
    have hs := Sl.made w5 (recC r) 38 15 1 rfl
    have z5 := (hEa.trans hE5).size
    obtain ⟨v6, w6, hr6, ho6, hM6, -⟩ := append_own (P := Tryz.prog) (t := 51) (ty := 51) (e := 38) (s := 15) (by simp) (by simp) (by kernel_rfl) (own_ext ho5 hEb) hs (by have := r_one [r]; simpa using this) (by omega) (by have := hEb.size; omega)
    have hge := fun hn => own_ge ho5 hn
    have hX6 : Ext w w6 := (((hX5.trans hEb).mod (S := fun k => w.heap.size ≤ k)).trans (hM6.weaken fun k hk => by have := hge hk.1; have := hE1.size; omega)).ext fun _ h => h
    obtain ⟨a6, c6, hv6⟩ := own_val ho6
    have hr6' : (Builtin.append_ #[51, 51] 51 #[v5, .slice (some ⟨w5.heap.size, 0, none⟩) 1 1]).run Tryz.prog (w5.alloc (.cells #[i64 r.kind, u32 r.nn, u32 r.ns, u64 r.nt, u32 r.nq, i64 r.what, i64 r.why, u64 r.at', u64 r.num, u32 r.node, u32 r.reg, .bool r.yes, u64 r.fro, u64 r.til, u8 r.lev] 38)) = .ok v6 w6 := hr6
    simp [hr6']
    have e : putL l i r = l ++ [r] := by unfold putL; rw [if_pos hneg]
    rw [e]
    refine ⟨⟨?_, ?_, ⟨a6, c6, by simpa using hv6⟩⟩, hX6⟩
    · have := sl_of_own ho6
      simpa [List.flatMap_append] using this
    · have := own_ge ho6 (own_nil ho6 (by omega))
      omega
  · obtain ⟨n, rfl⟩ := Int.eq_ofNat_of_zero_le (show 0 ≤ i by omega)
    have hn : n < l.length := by omega
    have hS5 := sl_of_own ho5
    have ix := fun W => rec_ix hS5 n hn W
    have rr := rec_at hS5 (List.getElem?_eq_getElem hn)
    have r0 := rr 0 _ (by omega) rfl
    rw [Nat.add_zero] at r0
    have th := fun j => own_thaw ho5 (by omega) j
    have hge := own_ge ho5 (own_nil ho5 (by omega))
    simp [hneg, o5.cell 0 _ rfl, o5.cell 1 _ rfl, o5.cell 2 _ rfl, o5.cell 3 _ rfl, o5.cell 4 _ rfl, o5.cell 5 _ rfl, o5.cell 6 _ rfl, o5.cell 7 _ rfl, o5.cell 8 _ rfl, o5.cell 9 _ rfl, o5.cell 10 _ rfl, o5.cell 11 _ rfl, o5.cell 12 _ rfl, o5.cell 13 _ rfl, o5.cell 14 _ rfl, ix, r0, rr 1 _ (by omega) rfl, rr 2 _ (by omega) rfl, rr 3 _ (by omega) rfl, rr 4 _ (by omega) rfl, rr 5 _ (by omega) rfl, rr 6 _ (by omega) rfl, rr 7 _ (by omega) rfl, rr 8 _ (by omega) rfl, rr 9 _ (by omega) rfl, rr 10 _ (by omega) rfl, rr 11 _ (by omega) rfl, rr 12 _ (by omega) rfl, rr 13 _ (by omega) rfl, rr 14 _ (by omega) rfl, th, cell_setCell]
    have hput := own_put recC (fun _ => rfl) ho5 n hn r
    have e : putL l n r = l.set n r := by unfold putL; rw [if_neg hneg]; rfl
    have hM : Mod (fun k => k = slB v5) w5 (putC w5 (slB v5) (slO v5 + n * 15) (recC r)) := putC_mod _ _ (Mod.refl _ _)
    have hX6 : Ext w (putC w5 (slB v5) (slO v5 + n * 15) (recC r)) := ((hX5.mod (S := fun k => w.heap.size ≤ k)).trans (hM.weaken fun k hk => by have := hE1.size; omega)).ext fun _ h => h
    rw [e]
    exact ⟨⟨sl_of_own hput, by have := hE1.size; omega, ⟨a5, c5, by simpa using hv5⟩⟩, hX6⟩
end Go.Proofs
namespace Go.Proofs
open Pk
set_option maxRecDepth 10000
def isQ (r : Rec) (q : Qt) : Bool := decide (q.n = r.num) && (decide (q.g = r.node) && decide (q.r = r.reg))
def rAnsR (b : RB) (r : Rec) : Int := if ¬ r.kind = 3 ∨ rightB r = false then 2 else if ixI b.Q (isQ r) < 0 then 5 else if ixI b.A (onA r.node r.reg) < 0 ∧ 256 ≤ b.A.length then 330 else 0
def rAnsB (b : RB) (r : Rec) : RB := if rAnsR b r = 0 then { b with Q := b.Q.take (ixI b.Q (isQ r)).toNat ++ b.Q.drop ((ixI b.Q (isQ r)).toNat + 1), A := putL b.A (ixI b.A (onA r.node r.reg)) r } else b
def rTup2 (V : RV) (b : RB) (c : Int) : Value := .tuple #[rbV V b, i64 c]
theorem ixI_lt {α : Type} (l : List α) (f : α → Bool) : ixI l f < l.length := by
  unfold ixI
  cases h : l.findIdx? f with
  | none => simp only; omega
  | some i => have := (List.findIdx?_eq_some_iff_getElem.1 h).1; simp only; omega
set_option maxHeartbeats 4000000 in
theorem rans_c {w : World} {V : RV} {b : RB} (h : RbAt w V b) (hq : ∀ q ∈ b.Q, 0 ≤ q.n ∧ q.n ≤ 4294967295) (hbq : b.Q.length ≤ 1000) (hba : b.A.length ≤ 1000) {r : Rec} (hr : RecOk r) : FN Tryz.prog 48 [rbV V b, recV r] w fun e w' => ∃ V', e = .returned (rTup2 V' (rAnsB b r) (rAnsR b r)) ∧ RbAt w' V' (rAnsB b r) ∧ Ext w w' ∧ Kept w V b V' (rAnsB b r) := by
  refine FN_enter Tryz.func48 rfl rfl (by kernel_rfl) ?_
  have hransw := fun w (h : RbAt w V b) => ransw_c h (by omega) r.node r.reg
  obtain ⟨qa, qc, aa, ac, fa, fc, rfl⟩ := h.open
  have hlen := fun ty W => h.q.isLen (P := Tryz.prog) (t := 50) (by simp) ty W
  have hlenA := fun ty W => h.a.isLen (P := Tryz.prog) (t := 51) (by simp) ty W
  simp
  have hE1 : Ext w (((w.alloc (.cells #[.slice qa b.Q.length qc, .slice aa b.A.length ac, .slice fa b.F.length fc, u64 b.p, u32 b.n] 53)).alloc (.cells #[i64 r.kind, u32 r.nn, u32 r.ns, u64 r.nt, u32 r.nq, i64 r.what, i64 r.why, u64 r.at', u64 r.num, u32 r.node, u32 r.reg, .bool r.yes, u64 r.fro, u64 r.til, u8 r.lev] 38)).alloc (.cells #[.slice none 0 0, .slice none 0 0, .slice none 0 0, u64 0, u32 0] 53)) := (((Ext.refl _).alloc _).alloc _).alloc _
  have o1 : Blk (((w.alloc (.cells #[.slice qa b.Q.length qc, .slice aa b.A.length ac, .slice fa b.F.length fc, u64 b.p, u32 b.n] 53)).alloc (.cells #[i64 r.kind, u32 r.nn, u32 r.ns, u64 r.nt, u32 r.nq, i64 r.what, i64 r.why, u64 r.at', u64 r.num, u32 r.node, u32 r.reg, .bool r.yes, u64 r.fro, u64 r.til, u8 r.lev] 38)).alloc (.cells #[.slice none 0 0, .slice none 0 0, .slice none 0 0, u64 0, u32 0] 53)) w.heap.size [.slice qa b.Q.length qc, .slice aa b.A.length ac, .slice fa b.F.length fc, u64 b.p, u32 b.n] := (Blk.new w _ _).ext (((Ext.refl _).alloc _).alloc _)
  have o2 : Blk (((w.alloc (.cells #[.slice qa b.Q.length qc, .slice aa b.A.length ac, .slice fa b.F.length fc, u64 b.p, u32 b.n] 53)).alloc (.cells #[i64 r.kind, u32 r.nn, u32 r.ns, u64 r.nt, u32 r.nq, i64 r.what, i64 r.why, u64 r.at', u64 r.num, u32 r.node, u32 r.reg, .bool r.yes, u64 r.fro, u64 r.til, u8 r.lev] 38)).alloc (.cells #[.slice none 0 0, .slice none 0 0, .slice none 0 0, u64 0, u32 0] 53)) (w.heap.size + 1) (recC r) := by
    have := (Blk.new (w.alloc (.cells #[.slice qa b.Q.length qc, .slice aa b.A.length ac, .slice fa b.F.length fc, u64 b.p, u32 b.n] 53)) (recC r) 38).ext ((Ext.refl _).alloc (.cells #[.slice none 0 0, .slice none 0 0, .slice none 0 0, u64 0, u32 0] 53))
    simp only [World.size_alloc] at this; exact this
  have o3 : Blk (((w.alloc (.cells #[.slice qa b.Q.length qc, .slice aa b.A.length ac, .slice fa b.F.length fc, u64 b.p, u32 b.n] 53)).alloc (.cells #[i64 r.kind, u32 r.nn, u32 r.ns, u64 r.nt, u32 r.nq, i64 r.what, i64 r.why, u64 r.at', u64 r.num, u32 r.node, u32 r.reg, .bool r.yes, u64 r.fro, u64 r.til, u8 r.lev] 38)).alloc (.cells #[.slice none 0 0, .slice none 0 0, .slice none 0 0, u64 0, u32 0] 53)) (w.heap.size + 1 + 1) [.slice none 0 0, .slice none 0 0, .slice none 0 0, u64 0, u32 0] := by
    have := Blk.new ((w.alloc (.cells #[.slice qa b.Q.length qc, .slice aa b.A.length ac, .slice fa b.F.length fc, u64 b.p, u32 b.n] 53)).alloc (.cells #[i64 r.kind, u32 r.nn, u32 r.ns, u64 r.nt, u32 r.nq, i64 r.what, i64 r.why, u64 r.at', u64 r.num, u32 r.node, u32 r.reg, .bool r.yes, u64 r.fro, u64 r.til, u8 r.lev] 38)) [.slice none 0 0, .slice none 0 0, .slice none 0 0, u64 0, u32 0] 53
    simp only [World.size_alloc] at this; exact this
  have s1 : (((w.alloc (.cells #[.slice qa b.Q.length qc, .slice aa b.A.length ac, .slice fa b.F.length fc, u64 b.p, u32 b.n] 53)).alloc (.cells #[i64 r.kind, u32 r.nn, u32 r.ns, u64 r.nt, u32 r.nq, i64 r.what, i64 r.why, u64 r.at', u64 r.num, u32 r.node, u32 r.reg, .bool r.yes, u64 r.fro, u64 r.til, u8 r.lev] 38)).alloc (.cells #[.slice none 0 0, .slice none 0 0, .slice none 0 0, u64 0, u32 0] 53)).heap.size = w.heap.size + 1 + 1 + 1 := by simp
  generalize (((w.alloc (.cells #[.slice qa b.Q.length qc, .slice aa b.A.length ac, .slice fa b.F.length fc, u64 b.p, u32 b.n] 53)).alloc (.cells #[i64 r.kind, u32 r.nn, u32 r.ns, u64 r.nt, u32 r.nq, i64 r.what, i64 r.why, u64 r.at', u64 r.num, u32 r.node, u32 r.reg, .bool r.yes, u64 r.fro, u64 r.til, u8 r.lev] 38)).alloc (.cells #[.slice none 0 0, .slice none 0 0, .slice none 0 0, u64 0, u32 0] 53)) = w1 at *
  have h1 := h.ext hE1
  have bad : ∀ c, c ≠ 0 → rAnsR b r = c → rAnsB b r = b := fun c hc e => by unfold rAnsB; rw [if_neg (by omega)]
  by_cases hk : r.kind = 3
  · simp [hk, o2.cell 0 _ rfl, o2.cell 1 _ rfl, o2.cell 2 _ rfl, o2.cell 3 _ rfl, o2.cell 4 _ rfl, o2.cell 5 _ rfl, o2.cell 6 _ rfl, o2.cell 7 _ rfl, o2.cell 8 _ rfl, o2.cell 9 _ rfl, o2.cell 10 _ rfl, o2.cell 11 _ rfl, o2.cell 12 _ rfl, o2.cell 13 _ rfl, o2.cell 14 _ rfl]
    refine FN.mono (by have := rright_c hr (.inl hk) w1; unfold recV at this; rw [hk] at this; exact this) ?_
    rintro _ w2 ⟨rfl, hE2⟩
    have hX2 := hE1.trans hE2
    have p1 := o1.ext hE2
    have p2 := o2.ext hE2
    have p3 := o3.ext hE2
    cases hg : rightB r with
    | false =>
      have hR : rAnsR b r = 2 := by unfold rAnsR; rw [if_pos (.inr hg)]
      rw [bad 2 (by decide) hR, hR]
      simp [p1.cell 0 _ rfl, p1.cell 1 _ rfl, p1.cell 2 _ rfl, p1.cell 3 _ rfl, p1.cell 4 _ rfl, p3.cell 0 _ rfl, p3.cell 1 _ rfl, p3.cell 2 _ rfl, p3.cell 3 _ rfl, p3.cell 4 _ rfl, p3.thaw, cell_setCell]
      exact ⟨⟨_, _, _⟩, rfl, h.ext (ext5 hX2 (by omega) _ _ _ _ _), ext5 hX2 (by omega) _ _ _ _ _, Kept.refl _ _ _⟩
    | true =>
      simp
      have c1 : ¬ (¬ r.kind = 3 ∨ rightB r = false) := by rw [hg]; simp [hk]
      refine WC_loop (fun k ρ ds w' => ∃ i : Nat, k = b.Q.length - i ∧ i ≤ b.Q.length ∧ ρ 2 = ptr w.heap.size ∧ ρ 3 = ptr (w.heap.size + 1) ∧ ρ 4 = ptr (w.heap.size + 1 + 1) ∧ ρ 6 = i64 i ∧ ds = [] ∧ Ext w2 w' ∧ ∀ j (hj : j < b.Q.length), j < i → isQ r b.Q[j] = false) b.Q.length ⟨0, by simp, by simp, by simp, by simp, by simp, by simp, rfl, Ext.refl _, fun j _ h => by omega⟩ ?_
      rintro k ρ ds w3 ⟨i, rfl, hi, e2, e3, e4, e6, rfl, hE3, hno⟩
      have hX3 := hX2.trans hE3
      have q1 := p1.ext hE3
      have q2 := p2.ext hE3
      have q3 := p3.ext hE3
      by_cases hlt : i < b.Q.length
      · have rr := ques_at (h.ext hX3).q (List.getElem?_eq_getElem hlt)
        have r0 := rr 0 _ (by omega) rfl
        rw [Nat.add_zero] at r0
        have ix := ques_ix h.q i hlt
        have nx : IntKind.i64.wrap ((i : Int) + 1) = ((i + 1 : Nat) : Int) := by rw [wrap64 _ (by omega) (by omega)]; rfl
        have hqi := hq b.Q[i] (by simp)
        have hw : IntKind.u64.wrap b.Q[i].n = b.Q[i].n := wrap64u _ hqi.1 (by omega)
        have fin0 : isQ r b.Q[i] = false → ∀ j (hj : j < b.Q.length), j < i + 1 → isQ r b.Q[j] = false := fun hq j hj hji => by
          rcases Nat.lt_succ_iff_lt_or_eq.1 hji with h1 | rfl
          · exact hno j hj h1
          · exact hq
        simp [e2, e3, e6, q1.cell 0 _ rfl, hlen, hlt, ix, r0, rr 1 _ (by omega) rfl, rr 2 _ (by omega) rfl, rr 3 _ (by omega) rfl, q2.cell 8 _ rfl]
        have hE4 : Ext w3 (w3.alloc (.cells #[u32 b.Q[i].n, u32 b.Q[i].g, u32 b.Q[i].r, u64 b.Q[i].a] 109)) := (Ext.refl _).alloc _
        have b4 : Blk (w3.alloc (.cells #[u32 b.Q[i].n, u32 b.Q[i].g, u32 b.Q[i].r, u64 b.Q[i].a] 109)) w3.heap.size (qC b.Q[i]) := Blk.new _ _ _
        generalize (w3.alloc (.cells #[u32 b.Q[i].n, u32 b.Q[i].g, u32 b.Q[i].r, u64 b.Q[i].a] 109)) = w4 at *
        have q2' := q2.ext hE4
        have hX4 := hX3.trans hE4
        have q1' := q1.ext hE4
        have q3' := q3.ext hE4
        by_cases t0 : b.Q[i].n = r.num
        · have hw' : IntKind.u64.wrap r.num = r.num := by rw [← t0]; exact hw
          by_cases t1 : b.Q[i].g = r.node
          · by_cases t2 : b.Q[i].r = r.reg
            · have hI : ixI b.Q (isQ r) = i := ixI_at hlt (by simp [isQ, t0, t1, t2]) fun j hj => hno j (by omega) hj
              simp [e2, e3, hw', b4.cell 1 _ rfl, b4.cell 2 _ rfl, q2'.cell 9 _ rfl, q2'.cell 10 _ rfl, q1'.cell 0 _ rfl, q1'.cell 1 _ rfl, q1'.cell 2 _ rfl, q1'.cell 3 _ rfl, q1'.cell 4 _ rfl, t0, t1, t2]
              refine FN.mono (hransw w4 (h.ext hX4)) ?_
              rintro _ w5 ⟨rfl, hE5⟩
              have hX5 := hX4.trans hE5
              have u1 := q1'.ext hE5
              have u2 := q2'.ext hE5
              have u3 := q3'.ext hE5
              have hI0 : ¬ ixI b.Q (isQ r) < 0 := by omega
              have hia := ixI_lt b.A (onA r.node r.reg)
              obtain ⟨ia, hia0⟩ : ∃ ia, ia = ixI b.A (onA r.node r.reg) := ⟨_, rfl⟩
              rw [← hia0] at hia ⊢
              by_cases c2 : ia < 0 ∧ 256 ≤ b.A.length
              · have hR : rAnsR b r = 330 := by unfold rAnsR; rw [if_neg c1, if_neg hI0, ← hia0, if_pos c2]
                rw [bad 330 (by decide) hR, hR]
                have c2' : (256 : Int) ≤ b.A.length := by omega
                simp [e2, e4, u1.cell 0 _ rfl, u1.cell 1 _ rfl, u1.cell 2 _ rfl, u1.cell 3 _ rfl, u1.cell 4 _ rfl, u3.cell 0 _ rfl, u3.cell 1 _ rfl, u3.cell 2 _ rfl, u3.cell 3 _ rfl, u3.cell 4 _ rfl, u3.thaw, cell_setCell, hlenA, c2.1, c2']
                exact ⟨⟨_, _, _⟩, rfl, h.ext (ext5 hX5 (by omega) _ _ _ _ _), ext5 hX5 (by omega) _ _ _ _ _, Kept.refl _ _ _⟩
              · have hR : rAnsR b r = 0 := by unfold rAnsR; rw [if_neg c1, if_neg hI0, ← hia0, if_neg c2]
                have hB : rAnsB b r = { b with Q := b.Q.take i ++ b.Q.drop (i + 1), A := putL b.A ia r } := by unfold rAnsB; rw [if_pos hR, hI, ← hia0]; rfl
                rw [hB, hR]
                have hbr : (decide (ia < 0) && decide ((256 : Int) ≤ b.A.length)) = false := by
                  rw [← Bool.not_eq_true, Bool.and_eq_true, decide_eq_true_eq, decide_eq_true_eq]
                  exact fun e => c2 ⟨e.1, by omega⟩
                obtain ⟨x1, hx1, hS1, hb1⟩ := sl_head (P := Tryz.prog) (t := 50) h.q (by simp) (fun W => by simp) .i64 i (by omega)
                obtain ⟨x2, hx2, hS2, hb2⟩ := sl_tail (P := Tryz.prog) (t := 50) h.q (by simp) (fun W => by simp) .i64 (i + 1) (by omega)
                push_cast at hx2
                have nx1 : IntKind.i64.wrap ((i : Int) + 1) = (i : Int) + 1 := wrap64 _ (by omega) (by omega)
                have c4 : ia < 0 → ¬ (256 : Int) ≤ b.A.length := fun c3 e => c2 ⟨c3, by omega⟩
                by_cases c3 : ia < 0
                all_goals
                  simp [e2, u1.cell 1 _ rfl, hlenA, c3, c4]
                  refine WC_drawC 11 (.F 1 <| .F 2 <| .F 3 <| .F 4 <| .F 6 <| .F 7 <| .F 8 <| .F 9 <| .F 10 <| .C 0 <| .C 5 <| .Z) (fun _ => false) rfl (by kernel_rfl) fun W hW => ?_
                  have hWE : Ext w5 W := hW ▸ Ext.drew _
                  have hXW := hX5.trans hWE
                  simp [e2, e6, (u1.ext hWE).cell 0 _ rfl, hx1, hx2, nx1]
                  have hs1 := hS1 W (h.ext hXW).q
                  have hs2 := hS2 W (h.ext hXW).q
                  rw [← flat_take qC (fun _ => rfl)] at hs1
                  rw [← flat_drop qC (fun _ => rfl)] at hs2
                  have ho := own_empty (e := 109) (s := 4) W W.heap.size (Nat.le_refl _)
                  have hEa := (Ext.refl W).alloc (.cells #[] 109)
                  refine KR_ext hEa ?_
                  obtain ⟨v7, w7, hr7, ho7, hE7⟩ := append_newB (P := Tryz.prog) (t := 50) (ty := 50) (e := 109) (s := 4) (by simp) (by simp) (by kernel_rfl) ho (hs1.ext hEa).toB (q_one _) (by omega) hEa.size
                  simp [hr7]
                  refine KR_ext hE7 ?_
                  have hge := fun hn => own_ge ho7 hn
                  obtain ⟨v8, w8, hr8, ho8, hM8, hnew8⟩ := append_own (P := Tryz.prog) (t := 50) (ty := 50) (e := 109) (s := 4) (by simp) (by simp) (by kernel_rfl) ho7 (hs2.ext (hEa.trans hE7)) (q_one _) (by omega) (hEa.trans hE7).size
                  obtain ⟨a8, c8, hv8⟩ := own_val ho8
                  have nS : ∀ k, k < W.heap.size → ¬ (slN v7 = false ∧ k = slB v7) := fun k hk ⟨e1, e2⟩ => by have := hge e1; omega
                  have hEab := hEa.trans hE7
                  have hX8 : Ext W w8 := ((hEab.mod (S := fun k => W.heap.size ≤ k)).trans (hM8.weaken fun k hk => by have := hge hk.1; omega)).ext fun _ h => h
                  have m1 := (u1.ext hWE).ext hX8
                  have m2 := (u2.ext hWE).ext hX8
                  have m3 := (u3.ext hWE).ext hX8
                  subst hv8
                  simp [hr8, e2, e3, m1.thaw, m1.cell 0 _ rfl, m1.cell 1 _ rfl, m2.cell 0 _ rfl, m2.cell 1 _ rfl, m2.cell 2 _ rfl, m2.cell 3 _ rfl, m2.cell 4 _ rfl, m2.cell 5 _ rfl, m2.cell 6 _ rfl, m2.cell 7 _ rfl, m2.cell 8 _ rfl, m2.cell 9 _ rfl, m2.cell 10 _ rfl, m2.cell 11 _ rfl, m2.cell 12 _ rfl, m2.cell 13 _ rfl, m2.cell 14 _ rfl, cell_setCell]
                  have n1 := m1.set 0 (.slice a8 (i + (b.Q.length - (i + 1))) c8)
                  simp only [List.set_cons_zero] at n1
                  have hM9 : Mod (fun k => k = w.heap.size) w8 (w8.setCell ⟨w.heap.size, 0, none⟩ (.slice a8 (i + (b.Q.length - (i + 1))) c8)) := (Mod.refl _ _).setC 0 _
                  have hX9 : Ext w (w8.setCell ⟨w.heap.size, 0, none⟩ (.slice a8 (i + (b.Q.length - (i + 1))) c8)) := (hXW.trans hX8).setCell _ _ (Nat.le_refl _)
                  have n3 := m3.mod hM9 (by omega)
                  have zW := hXW.size
                  have zE := hE1.size
                  have z5 := (hE2.trans (hE3.trans (hE4.trans (hE5.trans hWE)))).size
                  have ne8 : (b.Q.take i ++ b.Q.drop (i + 1)) ≠ [] → W.heap.size ≤ slB (.slice a8 (i + (b.Q.length - (i + 1))) c8) := fun hne => by
                    have hl := List.length_pos_iff.2 hne
                    simp at hl
                    exact own_ge ho8 (own_nil ho8 (by omega))
                  have hq8 : Sl w8 4 (.slice a8 (i + (b.Q.length - (i + 1))) c8) (b.Q.take i ++ b.Q.drop (i + 1)).length ((b.Q.take i ++ b.Q.drop (i + 1)).flatMap qC) := by
                    have := sl_of_own ho8
                    rw [← List.flatMap_append] at this
                    rw [show (b.Q.take i ++ b.Q.drop (i + 1)).length = i + (b.Q.length - (i + 1)) by simp; omega]
                    exact this
                  have hq9 := sl_mod hq8 hM9 fun hne => by have := ne8 (fun e => hne (by rw [e]; rfl)); omega
                  have z9 := hM9.size
                  have z8 := hX8.size
                  generalize (w8.setCell ⟨w.heap.size, 0, none⟩ (.slice a8 (i + (b.Q.length - (i + 1))) c8)) = w9 at *
                  refine FN.mono (rput_c (h.ext hX9).a hba ia hia r) ?_
                  rintro _ w10 ⟨v9, rfl, hF9, hE10⟩
                  obtain ⟨a9, c9, hv9⟩ := hF9.val
                  have hge9 := hF9.ge
                  have k1 := n1.ext hE10
                  have k3 := n3.ext hE10
                  subst hv9
                  simp [e2, e4, k1.cell 0 _ rfl, k1.cell 1 _ rfl, k1.cell 2 _ rfl, k1.cell 3 _ rfl, k1.cell 4 _ rfl, k3.cell 0 _ rfl, k3.cell 1 _ rfl, k3.cell 2 _ rfl, k3.cell 3 _ rfl, k3.cell 4 _ rfl, k1.thaw, k3.thaw, cell_setCell]
                  have hE11 := ext5 ((hX9.trans hE10).setCell ⟨w.heap.size, 1, none⟩ (.slice a9 (putL b.A ia r).length c9) (Nat.le_refl _)) (show w.heap.size ≤ w.heap.size + 1 + 1 by omega) (.slice a8 (i + (b.Q.length - (i + 1))) c8) (.slice a9 (putL b.A ia r).length c9) (.slice fa b.F.length fc) (u64 b.p) (u32 b.n)
                  have hM11 : Mod (fun k => k = w.heap.size ∨ k = w.heap.size + 1 + 1) w10 ((((((w10.setCell ⟨w.heap.size, 1, none⟩ (.slice a9 (putL b.A ia r).length c9)).setCell ⟨w.heap.size + 1 + 1, 0, none⟩ (.slice a8 (i + (b.Q.length - (i + 1))) c8)).setCell ⟨w.heap.size + 1 + 1, 1, none⟩ (.slice a9 (putL b.A ia r).length c9)).setCell ⟨w.heap.size + 1 + 1, 2, none⟩ (.slice fa b.F.length fc)).setCell ⟨w.heap.size + 1 + 1, 3, none⟩ (u64 b.p)).setCell ⟨w.heap.size + 1 + 1, 4, none⟩ (u32 b.n)) :=
                    ((((((Mod.refl _ _).setCell _ _ (.inl (.inl rfl))).setCell _ _ (.inl (.inr rfl))).setCell _ _ (.inl (.inr rfl))).setCell _ _ (.inl (.inr rfl))).setCell _ _ (.inl (.inr rfl))).setCell _ _ (.inl (.inr rfl))
                  refine ⟨⟨_, _, _⟩, rfl, ⟨sl_mod (hq9.ext hE10) hM11 fun hne => ?_, sl_mod hF9.row hM11 fun _ => ?_, (h.ext hE11).f⟩, hE11, fun S hS ho => ⟨fun hne hk => ?_, fun _ hk => ?_, ho.f⟩⟩
                  · have := ne8 (fun e => hne (by rw [e]; rfl))
                    show ¬ (slB (.slice a8 (i + (b.Q.length - (i + 1))) c8) = w.heap.size ∨ slB (.slice a8 (i + (b.Q.length - (i + 1))) c8) = w.heap.size + 1 + 1)
                    omega
                  · show ¬ (slB (.slice a9 (putL b.A ia r).length c9) = w.heap.size ∨ slB (.slice a9 (putL b.A ia r).length c9) = w.heap.size + 1 + 1)
                    omega
                  · have h2 := hS _ hk
                    have h3 := ne8 hne
                    simp only at h2
                    omega
                  · have h2 := hS _ hk
                    simp only at h2
                    omega
            · simp [bne_dec, e2, e3, e4, e6, hw', b4.cell 1 _ rfl, b4.cell 2 _ rfl, q2'.cell 9 _ rfl, q2'.cell 10 _ rfl, t0, t1, t2, nx]
              exact ⟨b.Q.length - (i + 1), by omega, i + 1, rfl, by omega, by simp, hE3.trans hE4, fin0 (by simp [isQ, t0, t1, t2])⟩
          · simp [bne_dec, e2, e3, e4, e6, hw', b4.cell 1 _ rfl, q2'.cell 9 _ rfl, t0, t1, nx]
            exact ⟨b.Q.length - (i + 1), by omega, i + 1, rfl, by omega, by simp, hE3.trans hE4, fin0 (by simp [isQ, t0, t1])⟩
        · simp [bne_dec, e2, e3, e4, e6, hw, t0, nx]
          exact ⟨b.Q.length - (i + 1), by omega, i + 1, rfl, by omega, by simp, hE3.trans hE4, fin0 (by simp [isQ, t0])⟩
      · have : i = b.Q.length := by omega
        subst this
        have hI : ixI b.Q (isQ r) = -1 := ixI_none fun j hj => hno j hj hj
        have hR : rAnsR b r = 5 := by unfold rAnsR; rw [if_neg c1, if_pos (by omega)]
        rw [bad 5 (by decide) hR, hR]
        simp [e2, e4, e6, q1.cell 0 _ rfl, q1.cell 1 _ rfl, q1.cell 2 _ rfl, q1.cell 3 _ rfl, q1.cell 4 _ rfl, q3.cell 0 _ rfl, q3.cell 1 _ rfl, q3.cell 2 _ rfl, q3.cell 3 _ rfl, q3.cell 4 _ rfl, q3.thaw, cell_setCell, hlen]
        exact ⟨⟨_, _, _⟩, rfl, h.ext (ext5 hX3 (by omega) _ _ _ _ _), ext5 hX3 (by omega) _ _ _ _ _, Kept.refl _ _ _⟩
  · have hR : rAnsR b r = 2 := by unfold rAnsR; rw [if_pos (.inl hk)]
    rw [bad 2 (by decide) hR, hR]
    simp [bne_dec, hk, o1.cell 0 _ rfl, o1.cell 1 _ rfl, o1.cell 2 _ rfl, o1.cell 3 _ rfl, o1.cell 4 _ rfl, o3.cell 0 _ rfl, o3.cell 1 _ rfl, o3.cell 2 _ rfl, o3.cell 3 _ rfl, o3.cell 4 _ rfl, o3.thaw, cell_setCell]
    exact ⟨⟨_, _, _⟩, rfl, h.ext (ext5 hE1 (by omega) _ _ _ _ _), ext5 hE1 (by omega) _ _ _ _ _, Kept.refl _ _ _⟩
end Go.Proofs
