/-
  Contracts of the functions that the law reaches, step by step.
-/
import Derived.Test.YtjagbfaklckagaaGreatBdS
import Derived.Test.YtjagbfaklckagaaGreatEngAG
namespace Go.Proofs
open Pk
set_option maxRecDepth 10000
def lastU (l : List Rec) (f : Rec → Bool) : Nat → Int
  | 0 => -1
  | i + 1 => if (match l[i]? with | some r => f r | none => false) = true then i else lastU l f i
theorem lastU_succ {l : List Rec} (f : Rec → Bool) {i : Nat} (hi : i < l.length) : lastU l f (i + 1) = if f l[i] = true then (i : Int) else lastU l f i := by
  rw [lastU, List.getElem?_eq_getElem hi]
theorem lastU_lt (l : List Rec) (f : Rec → Bool) : ∀ i : Nat, i ≤ l.length → lastU l f i < l.length
  | 0, _ => by simp only [lastU]; omega
  | i + 1, h => by
    rw [lastU_succ f (by omega)]
    split
    · omega
    · exact lastU_lt l f i (by omega)
def lastI (l : List Rec) (f : Rec → Bool) : Int := lastU l f l.length
def onF (g a : Int) (r : Rec) : Bool := decide (r.node = g) && decide (r.fro = a)
def rForeR (b : RB) (r : Rec) : Int := if ¬ r.kind = 4 ∨ rightB r = false ∨ r.fro = r.til then 2 else if lastI b.F (onF r.node r.fro) < 0 ∧ 256 ≤ b.F.length then 330 else 0
def rForeB (b : RB) (r : Rec) : RB := if rForeR b r = 0 then { b with F := putL b.F (lastI b.F (onF r.node r.fro)) r } else b
set_option maxHeartbeats 4000000 in
theorem rfore_c {w : World} {V : RV} {b : RB} (h : RbAt w V b) (hbf : b.F.length ≤ 1000) {r : Rec} (hr : RecOk r) : FN Tryz.prog 49 [rbV V b, recV r] w fun e w' => ∃ V', e = .returned (rTup2 V' (rForeB b r) (rForeR b r)) ∧ RbAt w' V' (rForeB b r) ∧ Ext w w' ∧ Kept w V b V' (rForeB b r) := by
  refine FN_enter Tryz.func49 rfl rfl (by kernel_rfl) ?_
  obtain ⟨qa, qc, aa, ac, fa, fc, rfl⟩ := h.open
  have hlen := fun ty W => h.f.isLen (P := Tryz.prog) (t := 51) (by simp) ty W
  simp
  have hE1 : Ext w (((w.alloc (.cells #[.slice qa b.Q.length qc, .slice aa b.A.length ac, .slice fa b.F.length fc, u64 b.p, u32 b.n] 53)).alloc (.cells #[i64 r.kind, u32 r.nn, u32 r.ns, u64 r.nt, u32 r.nq, i64 r.what, i64 r.why, u64 r.at', u64 r.num, u32 r.node, u32 r.reg, .bool r.yes, u64 r.fro, u64 r.til, u8 r.lev] 38)).alloc (.cells #[.slice none 0 0, .slice none 0 0, .slice none 0 0, u64 0, u32 0] 53)) := (((Ext.refl _).alloc _).alloc _).alloc _
  have o1 : Blk (((w.alloc (.cells #[.slice qa b.Q.length qc, .slice aa b.A.length ac, .slice fa b.F.length fc, u64 b.p, u32 b.n] 53)).alloc (.cells #[i64 r.kind, u32 r.nn, u32 r.ns, u64 r.nt, u32 r.nq, i64 r.what, i64 r.why, u64 r.at', u64 r.num, u32 r.node, u32 r.reg, .bool r.yes, u64 r.fro, u64 r.til, u8 r.lev] 38)).alloc (.cells #[.slice none 0 0, .slice none 0 0, .slice none 0 0, u64 0, u32 0] 53)) w.heap.size [.slice qa b.Q.length qc, .slice aa b.A.length ac, .slice fa b.F.length fc, u64 b.p, u32 b.n] := (Blk.new w _ _).ext (((Ext.refl _).alloc _).alloc _)
  have o2 : Blk (((w.alloc (.cells #[.slice qa b.Q.length qc, .slice aa b.A.length ac, .slice fa b.F.length fc, u64 b.p, u32 b.n] 53)).alloc (.cells #[i64 r.kind, u32 r.nn, u32 r.ns, u64 r.nt, u32 r.nq, i64 r.what, i64 r.why, u64 r.at', u64 r.num, u32 r.node, u32 r.reg, .bool r.yes, u64 r.fro, u64 r.til, u8 r.lev] 38)).alloc (.cells #[.slice none 0 0, .slice none 0 0, .slice none 0 0, u64 0, u32 0] 53)) (w.heap.size + 1) (recC r) := by
    have := (Blk.new (w.alloc (.cells #[.slice qa b.Q.length qc, .slice aa b.A.length ac, .slice fa b.F.length fc, u64 b.p, u32 b.n] 53)) (recC r) 38).ext ((Ext.refl _).alloc (.cells #[.slice none 0 0, .slice none 0 0, .slice none 0 0, u64 0, u32 0] 53))
    simp only [World.size_alloc] at this; exact this
  have o3 : Blk (((w.alloc (.cells #[.slice qa b.Q.length qc, .slice aa b.A.length ac, .slice fa b.F.length fc, u64 b.p, u32 b.n] 53)).alloc (.cells #[i64 r.kind, u32 r.nn, u32 r.ns, u64 r.nt, u32 r.nq, i64 r.what, i64 r.why, u64 r.at', u64 r.num, u32 r.node, u32 r.reg, .bool r.yes, u64 r.fro, u64 r.til, u8 r.lev] 38)).alloc (.cells #[.slice none 0 0, .slice none 0 0, .slice none 0 0, u64 0, u32 0] 53)) (w.heap.size + 1 + 1) [.slice none 0 0, .slice none 0 0, .slice none 0 0, u64 0, u32 0] := by
    have := Blk.new ((w.alloc (.cells #[.slice qa b.Q.length qc, .slice aa b.A.length ac, .slice fa b.F.length fc, u64 b.p, u32 b.n] 53)).alloc (.cells #[i64 r.kind, u32 r.nn, u32 r.ns, u64 r.nt, u32 r.nq, i64 r.what, i64 r.why, u64 r.at', u64 r.num, u32 r.node, u32 r.reg, .bool r.yes, u64 r.fro, u64 r.til, u8 r.lev] 38)) [.slice none 0 0, .slice none 0 0, .slice none 0 0, u64 0, u32 0] 53
    simp only [World.size_alloc] at this; exact this
  have s1 : (((w.alloc (.cells #[.slice qa b.Q.length qc, .slice aa b.A.length ac, .slice fa b.F.length fc, u64 b.p, u32 b.n] 53)).alloc (.cells #[i64 r.kind, u32 r.nn, u32 r.ns, u64 r.nt, u32 r.nq, i64 r.what, i64 r.why, u64 r.at', u64 r.num, u32 r.node, u32 r.reg, .bool r.yes, u64 r.fro, u64 r.til, u8 r.lev] 38)).alloc (.cells #[.slice none 0 0, .slice none 0 0, .slice none 0 0, u64 0, u32 0] 53)).heap.size = w.heap.size + 1 + 1 + 1 := by simp
  generalize (((w.alloc (.cells #[.slice qa b.Q.length qc, .slice aa b.A.length ac, .slice fa b.F.length fc, u64 b.p, u32 b.n] 53)).alloc (.cells #[i64 r.kind, u32 r.nn, u32 r.ns, u64 r.nt, u32 r.nq, i64 r.what, i64 r.why, u64 r.at', u64 r.num, u32 r.node, u32 r.reg, .bool r.yes, u64 r.fro, u64 r.til, u8 r.lev] 38)).alloc (.cells #[.slice none 0 0, .slice none 0 0, .slice none 0 0, u64 0, u32 0] 53)) = w1 at *
  have h1 := h.ext hE1
  have bad : ∀ c, c ≠ 0 → rForeR b r = c → rForeB b r = b := fun c hc e => by unfold rForeB; rw [if_neg (by omega)]
  by_cases hk : r.kind = 4
  · simp [hk, o2.cell 0 _ rfl, o2.cell 1 _ rfl, o2.cell 2 _ rfl, o2.cell 3 _ rfl, o2.cell 4 _ rfl, o2.cell 5 _ rfl, o2.cell 6 _ rfl, o2.cell 7 _ rfl, o2.cell 8 _ rfl, o2.cell 9 _ rfl, o2.cell 10 _ rfl, o2.cell 11 _ rfl, o2.cell 12 _ rfl, o2.cell 13 _ rfl, o2.cell 14 _ rfl]
    refine FN.mono (by have := rright_c hr (.inr hk) w1; unfold recV at this; rw [hk] at this; exact this) ?_
    rintro _ w2 ⟨rfl, hE2⟩
    have hX2 := hE1.trans hE2
    have p1 := o1.ext hE2
    have p2 := o2.ext hE2
    have p3 := o3.ext hE2
    cases hg : rightB r with
    | false =>
      have hR : rForeR b r = 2 := by unfold rForeR; rw [if_pos (.inr (.inl hg))]
      rw [bad 2 (by decide) hR, hR]
      simp [p1.cell 0 _ rfl, p1.cell 1 _ rfl, p1.cell 2 _ rfl, p1.cell 3 _ rfl, p1.cell 4 _ rfl, p3.cell 0 _ rfl, p3.cell 1 _ rfl, p3.cell 2 _ rfl, p3.cell 3 _ rfl, p3.cell 4 _ rfl, p3.thaw, cell_setCell]
      exact ⟨⟨_, _, _⟩, rfl, h.ext (ext5 hX2 (by omega) _ _ _ _ _), ext5 hX2 (by omega) _ _ _ _ _, Kept.refl _ _ _⟩
    | true =>
      by_cases hft : r.fro = r.til
      · have hR : rForeR b r = 2 := by unfold rForeR; rw [if_pos (.inr (.inr hft))]
        rw [bad 2 (by decide) hR, hR]
        simp [p2.cell 12 _ rfl, p2.cell 13 _ rfl, hft, p1.cell 0 _ rfl, p1.cell 1 _ rfl, p1.cell 2 _ rfl, p1.cell 3 _ rfl, p1.cell 4 _ rfl, p3.cell 0 _ rfl, p3.cell 1 _ rfl, p3.cell 2 _ rfl, p3.cell 3 _ rfl, p3.cell 4 _ rfl, p3.thaw, cell_setCell]
        exact ⟨⟨_, _, _⟩, rfl, h.ext (ext5 hX2 (by omega) _ _ _ _ _), ext5 hX2 (by omega) _ _ _ _ _, Kept.refl _ _ _⟩
      simp [beq_dec, p2.cell 12 _ rfl, p2.cell 13 _ rfl, hft]
      have c1 : ¬ (¬ r.kind = 4 ∨ rightB r = false ∨ r.fro = r.til) := by rw [hg]; simp [hk, hft]
      refine WC_loop (fun k ρ ds w' => ∃ i : Nat, k = b.F.length - i ∧ i ≤ b.F.length ∧ ρ 2 = ptr w.heap.size ∧ ρ 3 = ptr (w.heap.size + 1) ∧ ρ 4 = ptr (w.heap.size + 1 + 1) ∧ ρ 6 = i64 (lastU b.F (onF r.node r.fro) i) ∧ ρ 7 = i64 i ∧ ds = [] ∧ Ext w2 w') b.F.length ⟨0, by simp, by simp, by simp, by simp, by simp, by simp [lastU], by simp, rfl, Ext.refl _⟩ ?_
      rintro k ρ ds w3 ⟨i, rfl, hi, e2, e3, e4, e6, e7, rfl, hE3⟩
      have hX3 := hX2.trans hE3
      have q1 := p1.ext hE3
      have q2 := p2.ext hE3
      have q3 := p3.ext hE3
      by_cases hlt : i < b.F.length
      · have ix := rec_ix h.f i hlt
        have nx : IntKind.i64.wrap ((i : Int) + 1) = ((i + 1 : Nat) : Int) := by rw [wrap64 _ (by omega) (by omega)]; rfl
        have hs := lastU_succ (onF r.node r.fro) hlt
        simp [e2, e7, q1.cell 2 _ rfl, hlen, hlt]
        refine WC_drawC 18 (.F 0 <| .F 1 <| .F 2 <| .F 3 <| .F 4 <| .F 5 <| .F 6 <| .F 7 <| .F 8 <| .F 9 <| .F 10 <| .F 11 <| .F 12 <| .F 13 <| .F 14 <| .F 15 <| .F 16 <| .F 17 <| .Z) (fun _ => false) rfl (by kernel_rfl) fun W hW => ?_
        have hWE : Ext w3 W := hW ▸ Ext.drew _
        have rr := rec_at (h.ext (hX3.trans hWE)).f (List.getElem?_eq_getElem hlt)
        have u1 := q1.ext hWE
        have u2 := q2.ext hWE
        by_cases t0 : b.F[i].node = r.node
        · by_cases t1 : b.F[i].fro = r.fro
          · rw [if_pos (by simp [onF, t0, t1])] at hs
            simp [e2, e3, e4, e7, u1.cell 2 _ rfl, u2.cell 9 _ rfl, u2.cell 12 _ rfl, ix, rr 9 _ (by omega) rfl, rr 12 _ (by omega) rfl, t0, t1, nx]
            exact ⟨b.F.length - (i + 1), by omega, i + 1, rfl, by omega, hs.symm, by simp, hE3.trans hWE⟩
          · rw [if_neg (by simp [onF, t0, t1])] at hs
            simp [beq_dec, e2, e3, e4, e6, e7, u1.cell 2 _ rfl, u2.cell 9 _ rfl, u2.cell 12 _ rfl, ix, rr 9 _ (by omega) rfl, rr 12 _ (by omega) rfl, t0, t1, nx]
            exact ⟨b.F.length - (i + 1), by omega, i + 1, rfl, by omega, hs.symm, by simp, hE3.trans hWE⟩
        · rw [if_neg (by simp [onF, t0])] at hs
          simp [beq_dec, e2, e3, e4, e6, e7, u1.cell 2 _ rfl, u2.cell 9 _ rfl, ix, rr 9 _ (by omega) rfl, t0, nx]
          exact ⟨b.F.length - (i + 1), by omega, i + 1, rfl, by omega, hs.symm, by simp, hE3.trans hWE⟩
      · have : i = b.F.length := by omega
        subst this
        obtain ⟨ia, hia0⟩ : ∃ ia, ia = lastI b.F (onF r.node r.fro) := ⟨_, rfl⟩
        have hia : ia < b.F.length := by rw [hia0]; exact lastU_lt _ _ _ (Nat.le_refl _)
        rw [show lastU b.F (onF r.node r.fro) b.F.length = ia from hia0.symm] at e6
        by_cases c2 : ia < 0 ∧ 256 ≤ b.F.length
        · have hR : rForeR b r = 330 := by unfold rForeR; rw [if_neg c1, ← hia0, if_pos c2]
          rw [bad 330 (by decide) hR, hR]
          have c2' : (256 : Int) ≤ b.F.length := by omega
          simp [e2, e4, e6, e7, q1.cell 0 _ rfl, q1.cell 1 _ rfl, q1.cell 2 _ rfl, q1.cell 3 _ rfl, q1.cell 4 _ rfl, q3.cell 0 _ rfl, q3.cell 1 _ rfl, q3.cell 2 _ rfl, q3.cell 3 _ rfl, q3.cell 4 _ rfl, q3.thaw, cell_setCell, hlen, c2.1, c2']
          exact ⟨⟨_, _, _⟩, rfl, h.ext (ext5 hX3 (by omega) _ _ _ _ _), ext5 hX3 (by omega) _ _ _ _ _, Kept.refl _ _ _⟩
        · have hR : rForeR b r = 0 := by unfold rForeR; rw [if_neg c1, ← hia0, if_neg c2]
          have hB : rForeB b r = { b with F := putL b.F ia r } := by unfold rForeB; rw [if_pos hR, ← hia0]
          rw [hB, hR]
          have c4 : ia < 0 → ¬ (256 : Int) ≤ b.F.length := fun c3 e => c2 ⟨c3, by omega⟩
          by_cases c3 : ia < 0
          all_goals
            simp [e2, e3, e6, e7, q1.cell 2 _ rfl, q2.cell 0 _ rfl, q2.cell 1 _ rfl, q2.cell 2 _ rfl, q2.cell 3 _ rfl, q2.cell 4 _ rfl, q2.cell 5 _ rfl, q2.cell 6 _ rfl, q2.cell 7 _ rfl, q2.cell 8 _ rfl, q2.cell 9 _ rfl, q2.cell 10 _ rfl, q2.cell 11 _ rfl, q2.cell 12 _ rfl, q2.cell 13 _ rfl, q2.cell 14 _ rfl, hlen, c3, c4]
            refine FN.mono (rput_c (h.ext hX3).f hbf ia hia r) ?_
            rintro _ w10 ⟨v9, rfl, hF9, hE10⟩
            obtain ⟨a9, c9, hv9⟩ := hF9.val
            have hge9 := hF9.ge
            have k1 := q1.ext hE10
            have k3 := q3.ext hE10
            have z3 := hX3.size
            have zE := hE2.size
            have zF := hE3.size
            subst hv9
            simp [e2, e4, k1.cell 0 _ rfl, k1.cell 1 _ rfl, k1.cell 2 _ rfl, k1.cell 3 _ rfl, k1.cell 4 _ rfl, k3.cell 0 _ rfl, k3.cell 1 _ rfl, k3.cell 2 _ rfl, k3.cell 3 _ rfl, k3.cell 4 _ rfl, k1.thaw, k3.thaw, cell_setCell]
            have hE11 := ext5 ((hX3.trans hE10).setCell ⟨w.heap.size, 2, none⟩ (.slice a9 (putL b.F ia r).length c9) (Nat.le_refl _)) (show w.heap.size ≤ w.heap.size + 1 + 1 by omega) (.slice qa b.Q.length qc) (.slice aa b.A.length ac) (.slice a9 (putL b.F ia r).length c9) (u64 b.p) (u32 b.n)
            have hM11 : Mod (fun k => k = w.heap.size ∨ k = w.heap.size + 1 + 1) w10 ((((((w10.setCell ⟨w.heap.size, 2, none⟩ (.slice a9 (putL b.F ia r).length c9)).setCell ⟨w.heap.size + 1 + 1, 0, none⟩ (.slice qa b.Q.length qc)).setCell ⟨w.heap.size + 1 + 1, 1, none⟩ (.slice aa b.A.length ac)).setCell ⟨w.heap.size + 1 + 1, 2, none⟩ (.slice a9 (putL b.F ia r).length c9)).setCell ⟨w.heap.size + 1 + 1, 3, none⟩ (u64 b.p)).setCell ⟨w.heap.size + 1 + 1, 4, none⟩ (u32 b.n)) :=
              ((((((Mod.refl _ _).setCell _ _ (.inl (.inl rfl))).setCell _ _ (.inl (.inr rfl))).setCell _ _ (.inl (.inr rfl))).setCell _ _ (.inl (.inr rfl))).setCell _ _ (.inl (.inr rfl))).setCell _ _ (.inl (.inr rfl))
            refine ⟨⟨_, _, _⟩, rfl, ⟨(h.ext hE11).q, (h.ext hE11).a, sl_mod hF9.row hM11 fun _ => ?_⟩, hE11, fun S hS ho => ⟨ho.q, ho.a, fun _ hk => ?_⟩⟩
            · show ¬ (slB (.slice a9 (putL b.F ia r).length c9) = w.heap.size ∨ slB (.slice a9 (putL b.F ia r).length c9) = w.heap.size + 1 + 1)
              omega
            · have h2 := hS _ hk
              simp only at h2
              omega
  · have hR : rForeR b r = 2 := by unfold rForeR; rw [if_pos (.inl hk)]
    rw [bad 2 (by decide) hR, hR]
    simp [bne_dec, hk, o1.cell 0 _ rfl, o1.cell 1 _ rfl, o1.cell 2 _ rfl, o1.cell 3 _ rfl, o1.cell 4 _ rfl, o3.cell 0 _ rfl, o3.cell 1 _ rfl, o3.cell 2 _ rfl, o3.cell 3 _ rfl, o3.cell 4 _ rfl, o3.thaw, cell_setCell]
    exact ⟨⟨_, _, _⟩, rfl, h.ext (ext5 hE1 (by omega) _ _ _ _ _), ext5 hE1 (by omega) _ _ _ _ _, Kept.refl _ _ _⟩
end Go.Proofs
namespace Go.Proofs
open Pk
set_option maxRecDepth 10000
def keepQ (b : RB) (a : Int) (q : Qt) : Bool := decide (a ≤ addT q.a b.p)
def keepR (a : Int) (r : Rec) : Bool := decide (a < r.til)
def rPruB (b : RB) (a : Int) : RB := if pruR a = 0 then { b with Q := b.Q.filter (keepQ b a), A := b.A.filter (keepR a), F := b.F.filter (keepR a) } else b
def rbN (b : RB) : Int := b.Q.length + b.A.length + b.F.length
def rTup3 (V : RV) (b : RB) (n c : Int) : Value := .tuple #[rbV V b, i64 n, i64 c]
theorem filter_succ {α : Type} (l : List α) (f : α → Bool) {i : Nat} (hi : i < l.length) : (l.take (i + 1)).filter f = (l.take i).filter f ++ (if f l[i] then [l[i]] else []) := by
  rw [List.take_add_one, List.getElem?_eq_getElem hi, List.filter_append]
  congr 1
  cases h : f l[i] <;> simp [h]
set_option maxHeartbeats 4000000 in
theorem rprune_c {w : World} {V : RV} {b : RB} (h : RbAt w V b) (hq : ∀ q ∈ b.Q, 0 ≤ q.a) (hp : 0 ≤ b.p) (hbq : b.Q.length ≤ 1000) (hba : b.A.length ≤ 1000) (hbf : b.F.length ≤ 1000) (a : Int) : FN Tryz.prog 50 [rbV V b, u64 a] w fun e w' => ∃ V', e = .returned (rTup3 V' (rPruB b a) (rbN b - rbN (rPruB b a)) (pruR a)) ∧ RbAt w' V' (rPruB b a) ∧ Ext w w' ∧ Kept w V b V' (rPruB b a) := by
  refine FN_enter Tryz.func50 rfl rfl (by kernel_rfl) ?_
  obtain ⟨qa, qc, aa, ac, fa, fc, rfl⟩ := h.open
  have lenQ := fun ty W => h.q.isLen (P := Tryz.prog) (t := 50) (by simp) ty W
  have lenA := fun ty W => h.a.isLen (P := Tryz.prog) (t := 51) (by simp) ty W
  have lenF := fun ty W => h.f.isLen (P := Tryz.prog) (t := 51) (by simp) ty W
  simp
  have hE1 : Ext w ((w.alloc (.cells #[.slice qa b.Q.length qc, .slice aa b.A.length ac, .slice fa b.F.length fc, u64 b.p, u32 b.n] 53)).alloc (.cells #[.slice none 0 0, .slice none 0 0, .slice none 0 0, u64 0, u32 0] 53)) := ((Ext.refl _).alloc _).alloc _
  have o1 : Blk ((w.alloc (.cells #[.slice qa b.Q.length qc, .slice aa b.A.length ac, .slice fa b.F.length fc, u64 b.p, u32 b.n] 53)).alloc (.cells #[.slice none 0 0, .slice none 0 0, .slice none 0 0, u64 0, u32 0] 53)) w.heap.size [.slice qa b.Q.length qc, .slice aa b.A.length ac, .slice fa b.F.length fc, u64 b.p, u32 b.n] := (Blk.new w _ _).ext ((Ext.refl _).alloc _)
  have o2 : Blk ((w.alloc (.cells #[.slice qa b.Q.length qc, .slice aa b.A.length ac, .slice fa b.F.length fc, u64 b.p, u32 b.n] 53)).alloc (.cells #[.slice none 0 0, .slice none 0 0, .slice none 0 0, u64 0, u32 0] 53)) (w.heap.size + 1) [.slice none 0 0, .slice none 0 0, .slice none 0 0, u64 0, u32 0] := by
    have := Blk.new (w.alloc (.cells #[.slice qa b.Q.length qc, .slice aa b.A.length ac, .slice fa b.F.length fc, u64 b.p, u32 b.n] 53)) [.slice none 0 0, .slice none 0 0, .slice none 0 0, u64 0, u32 0] 53
    simp only [World.size_alloc] at this; exact this
  have s1 : ((w.alloc (.cells #[.slice qa b.Q.length qc, .slice aa b.A.length ac, .slice fa b.F.length fc, u64 b.p, u32 b.n] 53)).alloc (.cells #[.slice none 0 0, .slice none 0 0, .slice none 0 0, u64 0, u32 0] 53)).heap.size = w.heap.size + 1 + 1 := by simp
  generalize ((w.alloc (.cells #[.slice qa b.Q.length qc, .slice aa b.A.length ac, .slice fa b.F.length fc, u64 b.p, u32 b.n] 53)).alloc (.cells #[.slice none 0 0, .slice none 0 0, .slice none 0 0, u64 0, u32 0] 53)) = w1 at *
  by_cases hbad : 4611686018427387903 < a
  · have hR : pruR a = 2 := by unfold pruR; rw [if_pos hbad]
    have hB : rPruB b a = b := by unfold rPruB; rw [if_neg (by omega)]
    rw [hB, hR, Int.sub_self]
    simp [hbad, o1.cell 0 _ rfl, o1.cell 1 _ rfl, o1.cell 2 _ rfl, o1.cell 3 _ rfl, o1.cell 4 _ rfl, o2.cell 0 _ rfl, o2.cell 1 _ rfl, o2.cell 2 _ rfl, o2.cell 3 _ rfl, o2.cell 4 _ rfl, o2.thaw, cell_setCell]
    exact ⟨⟨_, _, _⟩, rfl, h.ext (ext5 hE1 (by omega) _ _ _ _ _), ext5 hE1 (by omega) _ _ _ _ _, Kept.refl _ _ _⟩
  have hR : pruR a = 0 := by unfold pruR; rw [if_neg hbad]
  have hB : rPruB b a = { b with Q := b.Q.filter (keepQ b a), A := b.A.filter (keepR a), F := b.F.filter (keepR a) } := by unfold rPruB; rw [if_pos hR]
  rw [hB, hR]
  simp [hbad, o1.cell 3 _ rfl, o1.cell 4 _ rfl]
  have hE2 : Ext w1 (w1.alloc (.cells #[.slice none 0 0, .slice none 0 0, .slice none 0 0, u64 b.p, u32 b.n] 53)) := (Ext.refl _).alloc _
  have o3 : Blk (w1.alloc (.cells #[.slice none 0 0, .slice none 0 0, .slice none 0 0, u64 b.p, u32 b.n] 53)) w1.heap.size [.slice none 0 0, .slice none 0 0, .slice none 0 0, u64 b.p, u32 b.n] := Blk.new _ _ _
  have s2 : (w1.alloc (.cells #[.slice none 0 0, .slice none 0 0, .slice none 0 0, u64 b.p, u32 b.n] 53)).heap.size = w1.heap.size + 1 := by simp
  have p1 := o1.ext hE2
  have p2 := o2.ext hE2
  generalize (w1.alloc (.cells #[.slice none 0 0, .slice none 0 0, .slice none 0 0, u64 b.p, u32 b.n] 53)) = w2 at *
  have hX2 := hE1.trans hE2
  refine WC_loop (fun k ρ ds w' => ∃ (i : Nat) (v : Value), k = b.Q.length - i ∧ i ≤ b.Q.length ∧ ρ 1 = u64 a ∧ ρ 2 = ptr w.heap.size ∧ ρ 4 = ptr (w.heap.size + 1) ∧ ρ 7 = ptr w1.heap.size ∧ ρ 8 = i64 i ∧ ds = [] ∧
      Gr w2 w' w1.heap.size [v, .slice none 0 0, .slice none 0 0, u64 b.p, u32 b.n] 109 4 v ((b.Q.take i).filter (keepQ b a)).length (((b.Q.take i).filter (keepQ b a)).flatMap qC)) b.Q.length
    ⟨0, .slice none 0 0, by simp, by simp, by simp, by simp, by simp, by simp, by simp, rfl, Gr.start _ _ o3⟩ ?_
  rintro k ρ ds w3 ⟨i, v, rfl, hi, e1, e2, e4, e7, e8, rfl, hG⟩
  have hM := hG.mod
  have hX3 : Ext w w3 := ((hX2.mod (S := fun k => w.heap.size ≤ k)).trans (hM.weaken fun k hk => by have := hE1.size; omega)).ext fun _ h => h
  have q1 := p1.mod hM (by omega)
  by_cases hlt : i < b.Q.length
  · have ix := ques_ix h.q i hlt
    have nx : IntKind.i64.wrap ((i : Int) + 1) = ((i + 1 : Nat) : Int) := by rw [wrap64 _ (by omega) (by omega)]; rfl
    have hs := filter_succ b.Q (keepQ b a) hlt
    simp [e2, e8, q1.cell 0 _ rfl, lenQ, hlt]
    refine WC_drawC 10 (.F 0 <| .F 1 <| .F 2 <| .F 3 <| .F 4 <| .F 5 <| .F 6 <| .F 7 <| .F 9 <| .C 8 <| .Z) (fun _ => false) rfl (by kernel_rfl) fun W hW => ?_
    have hWE : Ext w3 W := hW ▸ Ext.drew _
    have rr := ques_at (h.ext (hX3.trans hWE)).q (List.getElem?_eq_getElem hlt)
    have u1 := q1.ext hWE
    simp [e1, e2, e8, u1.cell 0 _ rfl, u1.cell 3 _ rfl, ix, rr 3 _ (by omega) rfl]
    refine FN.mono (radd_c b.Q[i].a b.p (hq _ (by simp)) hp W) ?_
    rintro _ w4 ⟨rfl, hw⟩
    subst hw
    simp
    refine KR_same ?_
    have hG4 := hG.ext hWE
    by_cases hkeep : a ≤ addT b.Q[i].a b.p
    · rw [if_pos (by simp [keepQ, hkeep])] at hs
      simp [hkeep, e1]
      refine WC_drawC 8 (.F 0 <| .F 1 <| .F 2 <| .F 3 <| .F 4 <| .F 5 <| .F 6 <| .C 7 <| .Z) (fun _ => false) rfl (by kernel_rfl) fun W5 hW5 => ?_
      have hWE5 : Ext w4 W5 := hW5 ▸ Ext.drew _
      have rr5 := ques_at ((h.ext (hX3.trans hWE)).ext hWE5).q (List.getElem?_eq_getElem hlt)
      have r50 := rr5 0 _ (by omega) rfl
      rw [Nat.add_zero] at r50
      have u5 := u1.ext hWE5
      have hG5 := hG4.ext hWE5
      simp [e2, e7, e8, u5.cell 0 _ rfl, hG5.blk.cell 0 _ rfl, ix, r50, rr5 1 _ (by omega) rfl, rr5 2 _ (by omega) rfl, rr5 3 _ (by omega) rfl]
      refine KR_ext ((Ext.refl _).alloc _) ?_
      have hfl : ((b.Q.take i).filter (keepQ b a)).length ≤ 10000 := by
        have := List.length_filter_le (keepQ b a) (b.Q.take i)
        have := List.length_take_le i b.Q
        omega
      obtain ⟨a6, c6, w6, hr6, hb6, hM6, hG6⟩ := hG5.push (P := Tryz.prog) (T := 50) (by omega) (by simp) (by simp) (by kernel_rfl) (qC b.Q[i]) rfl (by have := q_one [b.Q[i]]; simpa using this) hfl
      have hr6' : (Builtin.append_ #[50, 50] 50 #[v, .slice (some ⟨W5.heap.size, 0, none⟩) 1 1]).run Tryz.prog (W5.alloc (.cells #[u32 b.Q[i].n, u32 b.Q[i].g, u32 b.Q[i].r, u64 b.Q[i].a] 109)) = .ok (.slice a6 (((b.Q.take i).filter (keepQ b a)).length + 1) c6) w6 := hr6
      simp [hr6', e1, e2, e4, e7, e8, hb6.cell 0 _ rfl, hb6.thaw, nx]
      have g := hG6 0
      simp only [List.set_cons_zero] at g
      refine ⟨b.Q.length - (i + 1), by omega, i + 1, rfl, by omega, by simp, .slice a6 (((b.Q.take i).filter (keepQ b a)).length + 1) c6, ?_⟩
      rw [hs, List.length_append, List.flatMap_append]
      simpa using g
    · rw [if_neg (by simp [keepQ, hkeep]), List.append_nil] at hs
      simp [hkeep, e1, e2, e4, e7, e8, nx]
      rw [← hs] at hG4
      exact ⟨b.Q.length - (i + 1), by omega, i + 1, rfl, by omega, by simp, v, hG4⟩
  · have : i = b.Q.length := by omega
    subst this
    rw [List.take_length] at hG
    simp [e2, e8, q1.cell 0 _ rfl, lenQ]
    clear e8
    have hbq := hG.blk
    have hrq : Sl w3 4 v (b.Q.filter (keepQ b a)).length ((b.Q.filter (keepQ b a)).flatMap qC) := sl_of_own hG.own
    obtain ⟨vqa, vqc, hvq⟩ := own_val hG.own
    have hgq : (b.Q.filter (keepQ b a)) ≠ [] → w2.heap.size ≤ slB v := fun hne => own_ge hG.own (own_nil hG.own (List.length_pos_iff.2 hne))
    have hlq : (b.Q.filter (keepQ b a)).flatMap qC ≠ [] → slB v < w3.heap.size := fun hne => Sl.lt hrq (List.length_pos_iff.2 hne)
    have z23 := hM.size
    have p2' := p2.mod hM (by omega)
    clear hG hM
    obtain ⟨vq, hvq0⟩ : ∃ vq, vq = v := ⟨_, rfl⟩
    rw [← hvq0] at hbq hrq hvq hgq hlq
    clear hvq0
    refine WC_loop (fun k ρ ds w' => ∃ (i : Nat) (v : Value), k = b.A.length - i ∧ i ≤ b.A.length ∧ ρ 1 = u64 a ∧ ρ 2 = ptr w.heap.size ∧ ρ 4 = ptr (w.heap.size + 1) ∧ ρ 7 = ptr w1.heap.size ∧ ρ 9 = i64 i ∧ ds = [] ∧
        Gr w3 w' w1.heap.size [vq, v, .slice none 0 0, u64 b.p, u32 b.n] 38 15 v ((b.A.take i).filter (keepR a)).length (((b.A.take i).filter (keepR a)).flatMap recC)) b.A.length
      ⟨0, .slice none 0 0, by simp, by simp, by simp [e1], by simp [e2], by simp [e4], by simp [e7], by simp, rfl, Gr.start _ _ hbq⟩ ?_
    clear e1 e2 e4 e7
    rintro k ρ ds w4 ⟨i, v, rfl, hi, e1, e2, e4, e7, e8, rfl, hG⟩
    have hM := hG.mod
    have hXa : Ext w w4 := ((hX3.mod (S := fun k => w.heap.size ≤ k)).trans (hM.weaken fun k hk => by have := hE1.size; have := hX3.size; omega)).ext fun _ h => h
    have q1a := q1.mod hM (by omega)
    by_cases hlt : i < b.A.length
    · have ix := rec_ix h.a i hlt
      have nx : IntKind.i64.wrap ((i : Int) + 1) = ((i + 1 : Nat) : Int) := by rw [wrap64 _ (by omega) (by omega)]; rfl
      have hs := filter_succ b.A (keepR a) hlt
      have rr := rec_at (h.ext hXa).a (List.getElem?_eq_getElem hlt)
      by_cases hkeep : a < b.A[i].til
      · rw [if_pos (by simp [keepR, hkeep])] at hs
        simp [e1, e2, e8, q1a.cell 1 _ rfl, lenA, hlt, ix, rr 13 _ (by omega) rfl, hkeep]
        refine WC_drawC 8 (.F 0 <| .F 1 <| .F 2 <| .F 3 <| .F 4 <| .F 5 <| .F 6 <| .C 7 <| .Z) (fun _ => false) rfl (by kernel_rfl) fun W5 hW5 => ?_
        have hWE5 : Ext w4 W5 := hW5 ▸ Ext.drew _
        have rr5 := rec_at ((h.ext hXa).ext hWE5).a (List.getElem?_eq_getElem hlt)
        have r50 := rr5 0 _ (by omega) rfl
        rw [Nat.add_zero] at r50
        have u5 := q1a.ext hWE5
        have hG5 := hG.ext hWE5
        simp [e2, e7, e8, u5.cell 1 _ rfl, hG5.blk.cell 1 _ rfl, ix, r50, rr5 1 _ (by omega) rfl, rr5 2 _ (by omega) rfl, rr5 3 _ (by omega) rfl, rr5 4 _ (by omega) rfl, rr5 5 _ (by omega) rfl, rr5 6 _ (by omega) rfl, rr5 7 _ (by omega) rfl, rr5 8 _ (by omega) rfl, rr5 9 _ (by omega) rfl, rr5 10 _ (by omega) rfl, rr5 11 _ (by omega) rfl, rr5 12 _ (by omega) rfl, rr5 13 _ (by omega) rfl, rr5 14 _ (by omega) rfl]
        refine KR_ext ((Ext.refl _).alloc _) ?_
        have hfl : ((b.A.take i).filter (keepR a)).length ≤ 10000 := by
          have := List.length_filter_le (keepR a) (b.A.take i)
          have := List.length_take_le i b.A
          omega
        obtain ⟨a6, c6, w6, hr6, hb6, hM6, hG6⟩ := hG5.push (P := Tryz.prog) (T := 51) (by omega) (by simp) (by simp) (by kernel_rfl) (recC b.A[i]) rfl (by have := r_one [b.A[i]]; simpa using this) hfl
        have hr6' : (Builtin.append_ #[51, 51] 51 #[v, .slice (some ⟨W5.heap.size, 0, none⟩) 1 1]).run Tryz.prog (W5.alloc (.cells #[i64 b.A[i].kind, u32 b.A[i].nn, u32 b.A[i].ns, u64 b.A[i].nt, u32 b.A[i].nq, i64 b.A[i].what, i64 b.A[i].why, u64 b.A[i].at', u64 b.A[i].num, u32 b.A[i].node, u32 b.A[i].reg, .bool b.A[i].yes, u64 b.A[i].fro, u64 b.A[i].til, u8 b.A[i].lev] 38)) = .ok (.slice a6 (((b.A.take i).filter (keepR a)).length + 1) c6) w6 := hr6
        simp [hr6', e1, e2, e4, e7, e8, hb6.cell 1 _ rfl, hb6.thaw, nx]
        have g := hG6 1
        simp only [List.set_cons_zero, List.set_cons_succ] at g
        refine ⟨b.A.length - (i + 1), by omega, i + 1, rfl, by omega, by simp, .slice a6 (((b.A.take i).filter (keepR a)).length + 1) c6, ?_⟩
        rw [hs, List.length_append, List.flatMap_append]
        simpa using g
      · rw [if_neg (by simp [keepR, hkeep]), List.append_nil] at hs
        simp [e1, e2, e4, e7, e8, q1a.cell 1 _ rfl, lenA, hlt, ix, rr 13 _ (by omega) rfl, hkeep, nx]
        rw [← hs] at hG
        exact ⟨b.A.length - (i + 1), by omega, i + 1, rfl, by omega, by simp, v, hG⟩
    · have : i = b.A.length := by omega
      subst this
      rw [List.take_length] at hG
      simp [e2, e8, q1a.cell 1 _ rfl, lenA]
      clear e8
      have hba := hG.blk
      have hra : Sl w4 15 v (b.A.filter (keepR a)).length ((b.A.filter (keepR a)).flatMap recC) := sl_of_own hG.own
      obtain ⟨vaa, vac, hva⟩ := own_val hG.own
      have hga : (b.A.filter (keepR a)) ≠ [] → w3.heap.size ≤ slB v := fun hne => own_ge hG.own (own_nil hG.own (List.length_pos_iff.2 hne))
      have hla : (b.A.filter (keepR a)).flatMap recC ≠ [] → slB v < w4.heap.size := fun hne => Sl.lt hra (List.length_pos_iff.2 hne)
      have z34 := hM.size
      have p2a := p2'.mod hM (by omega)
      have hMa := hM
      clear hG hM
      obtain ⟨va, hva0⟩ : ∃ va, va = v := ⟨_, rfl⟩
      rw [← hva0] at hba hra hva hga hla
      clear hva0
      refine WC_loop (fun k ρ ds w' => ∃ (i : Nat) (v : Value), k = b.F.length - i ∧ i ≤ b.F.length ∧ ρ 1 = u64 a ∧ ρ 2 = ptr w.heap.size ∧ ρ 4 = ptr (w.heap.size + 1) ∧ ρ 7 = ptr w1.heap.size ∧ ρ 10 = i64 i ∧ ds = [] ∧
          Gr w4 w' w1.heap.size [vq, va, v, u64 b.p, u32 b.n] 38 15 v ((b.F.take i).filter (keepR a)).length (((b.F.take i).filter (keepR a)).flatMap recC)) b.F.length
        ⟨0, .slice none 0 0, by simp, by simp, by simp [e1], by simp [e2], by simp [e4], by simp [e7], by simp, rfl, Gr.start _ _ hba⟩ ?_
      clear e1 e2 e4 e7
      rintro k ρ ds w5 ⟨i, v, rfl, hi, e1, e2, e4, e7, e8, rfl, hG⟩
      have hM := hG.mod
      have hXf : Ext w w5 := ((hXa.mod (S := fun k => w.heap.size ≤ k)).trans (hM.weaken fun k hk => by have := hE1.size; have := hXa.size; omega)).ext fun _ h => h
      have q1af := q1a.mod hM (by omega)
      by_cases hlt : i < b.F.length
      · have ix := rec_ix h.f i hlt
        have nx : IntKind.i64.wrap ((i : Int) + 1) = ((i + 1 : Nat) : Int) := by rw [wrap64 _ (by omega) (by omega)]; rfl
        have hs := filter_succ b.F (keepR a) hlt
        have rr := rec_at (h.ext hXf).f (List.getElem?_eq_getElem hlt)
        by_cases hkeep : a < b.F[i].til
        · rw [if_pos (by simp [keepR, hkeep])] at hs
          simp [e1, e2, e8, q1af.cell 2 _ rfl, lenF, hlt, ix, rr 13 _ (by omega) rfl, hkeep]
          refine WC_drawC 8 (.F 0 <| .F 1 <| .F 2 <| .F 3 <| .F 4 <| .F 5 <| .F 6 <| .C 7 <| .Z) (fun _ => false) rfl (by kernel_rfl) fun W5 hW5 => ?_
          have hWE5 : Ext w5 W5 := hW5 ▸ Ext.drew _
          have rr5 := rec_at ((h.ext hXf).ext hWE5).f (List.getElem?_eq_getElem hlt)
          have r50 := rr5 0 _ (by omega) rfl
          rw [Nat.add_zero] at r50
          have u5 := q1af.ext hWE5
          have hG5 := hG.ext hWE5
          simp [e2, e7, e8, u5.cell 2 _ rfl, hG5.blk.cell 2 _ rfl, ix, r50, rr5 1 _ (by omega) rfl, rr5 2 _ (by omega) rfl, rr5 3 _ (by omega) rfl, rr5 4 _ (by omega) rfl, rr5 5 _ (by omega) rfl, rr5 6 _ (by omega) rfl, rr5 7 _ (by omega) rfl, rr5 8 _ (by omega) rfl, rr5 9 _ (by omega) rfl, rr5 10 _ (by omega) rfl, rr5 11 _ (by omega) rfl, rr5 12 _ (by omega) rfl, rr5 13 _ (by omega) rfl, rr5 14 _ (by omega) rfl]
          refine KR_ext ((Ext.refl _).alloc _) ?_
          have hfl : ((b.F.take i).filter (keepR a)).length ≤ 10000 := by
            have := List.length_filter_le (keepR a) (b.F.take i)
            have := List.length_take_le i b.F
            omega
          obtain ⟨a6, c6, w6, hr6, hb6, hM6, hG6⟩ := hG5.push (P := Tryz.prog) (T := 51) (by omega) (by simp) (by simp) (by kernel_rfl) (recC b.F[i]) rfl (by have := r_one [b.F[i]]; simpa using this) hfl
          have hr6' : (Builtin.append_ #[51, 51] 51 #[v, .slice (some ⟨W5.heap.size, 0, none⟩) 1 1]).run Tryz.prog (W5.alloc (.cells #[i64 b.F[i].kind, u32 b.F[i].nn, u32 b.F[i].ns, u64 b.F[i].nt, u32 b.F[i].nq, i64 b.F[i].what, i64 b.F[i].why, u64 b.F[i].at', u64 b.F[i].num, u32 b.F[i].node, u32 b.F[i].reg, .bool b.F[i].yes, u64 b.F[i].fro, u64 b.F[i].til, u8 b.F[i].lev] 38)) = .ok (.slice a6 (((b.F.take i).filter (keepR a)).length + 1) c6) w6 := hr6
          simp [hr6', e1, e2, e4, e7, e8, hb6.cell 2 _ rfl, hb6.thaw, nx]
          have g := hG6 2
          simp only [List.set_cons_zero, List.set_cons_succ] at g
          refine ⟨b.F.length - (i + 1), by omega, i + 1, rfl, by omega, by simp, .slice a6 (((b.F.take i).filter (keepR a)).length + 1) c6, ?_⟩
          rw [hs, List.length_append, List.flatMap_append]
          simpa using g
        · rw [if_neg (by simp [keepR, hkeep]), List.append_nil] at hs
          simp [e1, e2, e4, e7, e8, q1af.cell 2 _ rfl, lenF, hlt, ix, rr 13 _ (by omega) rfl, hkeep, nx]
          rw [← hs] at hG
          exact ⟨b.F.length - (i + 1), by omega, i + 1, rfl, by omega, by simp, v, hG⟩
      · have : i = b.F.length := by omega
        subst this
        rw [List.take_length] at hG
        simp [e2, e8, q1af.cell 2 _ rfl, lenF]
        have hbf' := hG.blk
        have hrf : Sl w5 15 v (b.F.filter (keepR a)).length ((b.F.filter (keepR a)).flatMap recC) := sl_of_own hG.own
        obtain ⟨vfa, vfc, hvf⟩ := own_val hG.own
        have hgf : (b.F.filter (keepR a)) ≠ [] → w4.heap.size ≤ slB v := fun hne => own_ge hG.own (own_nil hG.own (List.length_pos_iff.2 hne))
        have hlf : (b.F.filter (keepR a)).flatMap recC ≠ [] → slB v < w5.heap.size := fun hne => Sl.lt hrf (List.length_pos_iff.2 hne)
        have z45 := hM.size
        have p2f := p2a.mod hM (by omega)
        clear hG
        subst hvq hva hvf
        refine WC_drawC 25 (.F 0 <| .F 1 <| .F 2 <| .F 3 <| .F 4 <| .F 5 <| .F 6 <| .F 7 <| .F 8 <| .F 9 <| .F 10 <| .F 11 <| .F 12 <| .F 13 <| .F 14 <| .F 15 <| .F 16 <| .F 17 <| .F 18 <| .F 19 <| .F 20 <| .F 21 <| .F 22 <| .F 23 <| .C 24 <| .Z) (Xf fun k => k = w.heap.size + 1) rfl (by kernel_rfl) fun W hW => ?_
        have hWE : Ext w5 W := hW ▸ Ext.drew _
        have d1 := q1af.ext hWE
        have d2 := p2f.ext hWE
        have d3 := hbf'.ext hWE
        have X1 : Xf (fun k => k = w.heap.size + 1) w.heap.size = false := Xf_f (by omega)
        have X3 : Xf (fun k => k = w.heap.size + 1) w1.heap.size = false := Xf_f (by omega)
        have kq := fun ty W => hrq.isLen (P := Tryz.prog) (t := 50) (by simp) ty W
        have ka := fun ty W => hra.isLen (P := Tryz.prog) (t := 51) (by simp) ty W
        have kf := fun ty W => hrf.isLen (P := Tryz.prog) (t := 51) (by simp) ty W
        simp [e2, e4, e7, X1, X3, d1.cell 0 _ rfl, d1.cell 1 _ rfl, d1.cell 2 _ rfl, d2.cell 0 _ rfl, d2.cell 1 _ rfl, d2.cell 2 _ rfl, d2.cell 3 _ rfl, d2.cell 4 _ rfl, d3.cell 0 _ rfl, d3.cell 1 _ rfl, d3.cell 2 _ rfl, d3.cell 3 _ rfl, d3.cell 4 _ rfl, d2.thaw, cell_setCell, lenQ, lenA, lenF, kq, ka, kf]
        refine KR_mk (Xf_agr (((((Mod.refl _ _).setC 0 _).setC 1 _).setC 2 _).setC 3 _ |>.setC 4 _)) ?_
        simp [e4, d2.cell 0 _ rfl, d2.cell 1 _ rfl, d2.cell 2 _ rfl, d2.cell 3 _ rfl, d2.cell 4 _ rfl, cell_setCell]
        have hE11 := ext5 (hXf.trans hWE) (show w.heap.size ≤ w.heap.size + 1 by omega) (.slice vqa (b.Q.filter (keepQ b a)).length vqc) (.slice vaa (b.A.filter (keepR a)).length vac) (.slice vfa (b.F.filter (keepR a)).length vfc) (u64 b.p) (u32 b.n)
        have hM11 : Mod (fun k => k = w.heap.size + 1) W (((((W.setCell ⟨w.heap.size + 1, 0, none⟩ (.slice vqa (b.Q.filter (keepQ b a)).length vqc)).setCell ⟨w.heap.size + 1, 1, none⟩ (.slice vaa (b.A.filter (keepR a)).length vac)).setCell ⟨w.heap.size + 1, 2, none⟩ (.slice vfa (b.F.filter (keepR a)).length vfc)).setCell ⟨w.heap.size + 1, 3, none⟩ (u64 b.p)).setCell ⟨w.heap.size + 1, 4, none⟩ (u32 b.n)) :=
          ((((Mod.refl _ _).setC 0 _).setC 1 _).setC 2 _).setC 3 _ |>.setC 4 _
        have neq : (b.Q.filter (keepQ b a)).flatMap qC ≠ [] → (b.Q.filter (keepQ b a)) ≠ [] := fun hne e => hne (by rw [e]; rfl)
        have nea : (b.A.filter (keepR a)).flatMap recC ≠ [] → (b.A.filter (keepR a)) ≠ [] := fun hne e => hne (by rw [e]; rfl)
        have nef : (b.F.filter (keepR a)).flatMap recC ≠ [] → (b.F.filter (keepR a)) ≠ [] := fun hne e => hne (by rw [e]; rfl)
        have rq := sl_mod (sl_mod ((sl_mod (sl_mod hrq hMa fun hne => by have := hlq hne; have := hgq (neq hne); omega) hM fun hne => by have := hlq hne; have := hgq (neq hne); omega).ext hWE) (Mod.refl (fun _ => False) W) fun _ h => h) hM11 fun hne => by have := hgq (neq hne); omega
        have ra := sl_mod ((sl_mod hra hM fun hne => by have := hla hne; have := hga (nea hne); omega).ext hWE) hM11 fun hne => by have := hga (nea hne); omega
        have rf := sl_mod (hrf.ext hWE) hM11 fun hne => by have := hgf (nef hne); omega
        refine ⟨⟨_, _, _⟩, ?_, ⟨rq, ra, rf⟩, hE11, fun S hS ho => ⟨fun hne hk => ?_, fun hne hk => ?_, fun hne hk => ?_⟩⟩
        · have l1 := List.length_filter_le (keepQ b a) b.Q
          have l2 := List.length_filter_le (keepR a) b.A
          have l3 := List.length_filter_le (keepR a) b.F
          have i1 := wrap64 ((b.Q.length : Int) + b.A.length) (by omega) (by omega)
          have i2 := wrap64 ((b.Q.length : Int) + b.A.length + b.F.length) (by omega) (by omega)
          have i3 := wrap64 ((b.Q.length : Int) + b.A.length + b.F.length - (b.Q.filter (keepQ b a)).length) (by omega) (by omega)
          have i4 := wrap64 ((b.Q.length : Int) + b.A.length + b.F.length - (b.Q.filter (keepQ b a)).length - (b.A.filter (keepR a)).length) (by omega) (by omega)
          have i5 := wrap64 ((b.Q.length : Int) + b.A.length + b.F.length - (b.Q.filter (keepQ b a)).length - (b.A.filter (keepR a)).length - (b.F.filter (keepR a)).length) (by omega) (by omega)
          rw [i1, i2, i3, i4, i5]
          unfold rTup3 rbN
          simp only
          rw [show (b.Q.length : Int) + b.A.length + b.F.length - (b.Q.filter (keepQ b a)).length - (b.A.filter (keepR a)).length - (b.F.filter (keepR a)).length = (b.Q.length : Int) + b.A.length + b.F.length - (((b.Q.filter (keepQ b a)).length : Int) + (b.A.filter (keepR a)).length + (b.F.filter (keepR a)).length) by omega]
        · have h2 := hS _ hk
          have h3 := hgq hne
          simp only at h2
          omega
        · have h2 := hS _ hk
          have h3 := hga hne
          simp only at h2
          omega
        · have h2 := hS _ hk
          have h3 := hgf hne
          simp only at h2
          omega
end Go.Proofs
