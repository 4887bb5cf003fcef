/-
  Contracts of the functions that the law reaches, step by step.
-/
import Derived.Test.YtljaeeagbokacaaTrX
set_option maxRecDepth 10000
namespace Go.Proofs
open Pk
def two (P : Program) (t : TypeId) (e : TypeId) : Bool := match P.underlying t with
  | some (.struct ⟨[f0, f1]⟩) => (f0.name != "_" && f1.name != "_") && (f0.type == e && (f1.type == e && (f0.offset == 0 && (f1.offset == 1 && !P.stoodInHeld t))))
  | _ => false
theorem q23 (w : World) (d : Nat) (a b : Int) : (Op.equalIn (d + 1) 23 (u32 a) (u32 b)).run Try.prog w = .ok (a == b) w := by
  have h' := run_und (P := Try.prog) (t := 23) (d := .int .u32) (by simp) w
  simp [Op.equalIn, h']
theorem part23 (w : World) (xs : Array Value) (i : Nat) (v : Value) (h : xs[i]? = some v) : (part 23 xs i).run Try.prog w = .ok v w := by
  simp [part, h, isAgg]
theorem neq84 (w : World) (a b c d : Int) : (binOp .neq 84 (.agg #[u32 a, u32 b]) (.agg #[u32 c, u32 d])).run Try.prog w = .ok (.bool !(decide ((a, b) = (c, d)))) w := by
  have h2 : two Try.prog 84 23 = true := by kernel_rfl
  unfold two at h2
  split at h2
  · rename_i f0 f1 hu
    simp only [Bool.and_eq_true, bne_iff_ne, beq_iff_eq, Bool.not_eq_true'] at h2
    obtain ⟨⟨n0, n1⟩, t0, t1, o0, o1, hs⟩ := h2
    have h' := run_und hu w
    have hp : (program).run Try.prog w = .ok Try.prog w := rfl
    have p0 : (part 23 #[u32 a, u32 b] 0).run Try.prog w = .ok (u32 a) w := part23 w _ 0 _ rfl
    have p1 : (part 23 #[u32 a, u32 b] 1).run Try.prog w = .ok (u32 b) w := part23 w _ 1 _ rfl
    have p2 : (part 23 #[u32 c, u32 d] 0).run Try.prog w = .ok (u32 c) w := part23 w _ 0 _ rfl
    have p3 : (part 23 #[u32 c, u32 d] 1).run Try.prog w = .ok (u32 d) w := part23 w _ 1 _ rfl
    have q1 := q23 w 9998 a c
    have q2 := q23 w 9998 b d
    have e : (Op.equalIn (9999 + 1) 84 (.agg #[u32 a, u32 b]) (.agg #[u32 c, u32 d])).run Try.prog w = .ok (decide ((a, b) = (c, d))) w := by
      unfold Op.equalIn
      by_cases h1 : a = c
      · by_cases h2 : b = d
        · subst h1 h2
          simp [h', hp, hs, n0, n1, t0, t1, o0, o1, p0, p1, q1, q2]
        · subst h1
          simp [h', hp, hs, n0, n1, t0, t1, o0, o1, p0, p1, p2, p3, q1, q2, h2]
      · simp [h', hp, hs, n0, n1, t0, t1, o0, o1, p0, p2, q1, h1]
    simp only [binOp, Op.equal, Op.maxDepth, Sem.run_bind, e, Result.andThen_ok, Sem.run_pure]
  · cases h2

def eqv (m m' : ML) : Prop := m.length = m'.length ∧ ∀ p ∈ m, mget m' p.1 = some p.2
instance (m m' : ML) : Decidable (eqv m m') := inferInstanceAs (Decidable (_ ∧ _))
theorem eqv_of {m m' : ML} (h : m.length = m'.length) (idxs : List Nat) (hp : idxs.Perm (List.range m.length)) (hi : ∀ i ∈ idxs, ∀ p, m[i]? = some p → mget m' p.1 = some p.2) : eqv m m' := by
  refine ⟨h, fun p hpm => ?_⟩
  obtain ⟨i, hi'⟩ := List.mem_iff_getElem?.1 hpm
  have hlt := (List.getElem?_eq_some_iff.1 hi').1
  exact hi i (hp.mem_iff.2 (by simpa using hlt)) p hi'
theorem equal_c {w : World} {r r' : Nat} {m m' : ML} (h : MA w r m) (h' : MA w r' m') :
    FN Try.prog 47 [.map (some r), .map (some r')] w fun e w' => e = .returned (.bool (decide (eqv m m'))) ∧ Ext w w' := by
  refine FN_enter Try.func47 rfl rfl (by kernel_rfl) ?_
  have l1 := fun W (hW : MA W r m) => hW.len (P := Try.prog) (T := 63) (by simp) 3
  have l2 := h'.len (P := Try.prog) (T := 63) (by simp) 3
  simp [l1 w h, l2]
  by_cases hl : m.length = m'.length
  · have hlb : ((m.length : Int) != (m'.length : Int)) = false := by simp; omega
    simp [hlb]
    obtain ⟨o, hr, hi⟩ := h.range (P := Try.prog) tm63
    simp [hr]
    have he := (Ext.refl w).alloc o
    have h2' := h'.ext he
    obtain ⟨b, hb⟩ : ∃ b, b = w.heap.size := ⟨_, rfl⟩
    have hrb := h.lt
    have hrb' := h'.lt
    rw [← hb] at hi ⊢
    generalize (w.alloc o) = w2 at *
    refine WC_loop (fun k ρ ds w' => ∃ idxs, k + idxs.length = m.length ∧ ρ 1 = .map (some r') ∧ ρ 15 = ptr b ∧ ds = [] ∧ MIter (Value.int .u32) (Value.int .u32) w' b r m idxs ∧ MA w' r' m' ∧ Ext w w' ∧
      ∀ i ∈ idxs, ∀ p, m[i]? = some p → mget m' p.1 = some p.2) m.length ⟨[], by simp, by simp, by simp, rfl, hi, h2', he, by simp⟩ ?_
    rintro k ρ ds w3 ⟨idxs, hk, e1, e15, rfl, hI, hm', hE, hall⟩
    rcases hI.next (P := Try.prog) 0 with ⟨hp, hrun⟩ | ⟨i, p, w4, hpi, hni, hrun, hI4, hM4, hent, hs4⟩
    · simp [e15, hrun]
      exact ⟨eqv_of hl idxs hp hall, hE⟩
    · have hm4 := hm'.mod hM4 (by omega)
      have hE4 : Ext w w4 := ((hE.mod (S := fun k => w.heap.size ≤ k)).trans (hM4.weaken fun i hi => by omega)).ext fun _ h => h
      have hlk := hm4.lookup (P := Try.prog) kq tm63 (z23 w4) p.1 true
      have hb4 := hI4.bound
      simp only [List.length_append, List.length_singleton] at hb4
      simp [e15, hrun, hent, e1, hlk]
      have hmem : p ∈ m := List.mem_of_getElem? hpi
      cases hg : mget m' p.1 with
      | none =>
        simp
        refine ⟨fun hq => ?_, hE4⟩
        have := hq.2 p hmem
        rw [hg] at this; cases this
      | some v =>
        by_cases hv : p.2 = v
        · have hvb : (p.2 != v) = false := by simpa using hv
          simp [hvb, e1, e15]
          refine ⟨k - 1, by omega, idxs ++ [i], by simp; omega, hI4, hm4, hE4, ?_⟩
          intro j hj q1 q2 hq
          simp at hj
          rcases hj with hj | rfl
          · exact hall j hj (q1, q2) hq
          · rw [hpi] at hq; cases hq
            rw [← hv] at hg
            exact hg
        · have hvb : (p.2 != v) = true := by simpa using hv
          simp [hvb]
          refine ⟨fun hq => ?_, hE4⟩
          have := hq.2 p hmem
          rw [hg] at this; cases this
          exact hv rfl
  · have hlb : ((m.length : Int) != (m'.length : Int)) = true := by simp; omega
    simp [hlb]
    exact ⟨fun h => hl h.1, Ext.refl _⟩
theorem tsame_c {w : World} {t r t' r' : Nat} {m m' : ML} (h : TreeAt w t r m) (h' : TreeAt w t' r' m') :
    FN Try.prog 21 [ptr t, ptr t'] w fun e w' => e = .returned (.bool (decide (eqv m m'))) ∧ Ext w w' := by
  refine FN_enter Try.func21 rfl rfl (by kernel_rfl) ?_
  simp
  refine FN.mono (none_c h) ?_
  rintro _ _ ⟨rfl, hw⟩
  subst hw
  simp
  refine FN.mono (none_c h') ?_
  rintro _ _ ⟨rfl, hw⟩
  subst hw
  simp
  refine WC_drawC 8 (.F 0 <| .F 1 <| .F 2 <| .F 3 <| .F 4 <| .F 5 <| .F 6 <| .F 7 <| .Z) (fun _ => false) rfl (by kernel_rfl) fun W hW => ?_
  have hWE := hW ▸ Ext.drew _
  have h1 := h.ext hWE
  have h2 := h'.ext hWE
  simp [h1.cell, h2.cell]
  refine FN.mono (equal_c h1.map h2.map) ?_
  rintro _ w2 ⟨rfl, h3⟩
  simp
  exact hWE.trans h3
theorem tsame_nil {w : World} {t r : Nat} {m : ML} (h : TreeAt w t r m) : FN Try.prog 21 [ptr t, .pointer none] w fun e w' => e = .returned (.bool false) ∧ w' = w := by
  refine FN_enter Try.func21 rfl rfl (by kernel_rfl) ?_
  simp
  refine FN.mono (none_c h) ?_
  rintro _ _ ⟨rfl, hw⟩
  subst hw
  simp
  refine FN.mono (no_none (.inl rfl)) ?_
  rintro _ _ ⟨rfl, hw⟩
  subst hw
  simp
  refine FN.mono (none_c h) ?_
  rintro _ _ ⟨rfl, hw⟩
  subst hw
  simp
theorem copy_c {w : World} {t r : Nat} {m : ML} (h : TreeAt w t r m) : FN Try.prog 19 [ptr t] w fun e w' => ∃ t' r', e = .returned (ptr t') ∧ TreeAt w' t' r' m ∧ Ext w w' ∧ w.heap.size ≤ t' ∧ w.heap.size ≤ r' := by
  refine FN_enter Try.func19 rfl rfl (by kernel_rfl) ?_
  simp
  refine FN.mono (none_c h) ?_
  rintro _ _ ⟨rfl, hw⟩
  subst hw
  simp [h.cell]
  refine FN.mono (clone_c h.map) ?_
  rintro _ w2 ⟨r', rfl, h1, h2, h3⟩
  simp
  have he := (Ext.refl w2).alloc (.cells #[.map (some r')] 65)
  exact ⟨r', ⟨by simp, h1.ext he⟩, h2.trans he, h2.size, h3⟩
theorem rsame_c {w : World} {v v' : Value} {s s' : ML} (h : Rws w v s) (h' : Rws w v' s') (hb : s.length ≤ 1000) :
    FN Try.prog 20 [.agg #[v], .agg #[v']] w fun e w' => e = .returned (.bool (decide (s = s'))) ∧ Ext w w' := by
  refine FN_enter Try.func20 rfl rfl (by kernel_rfl) ?_
  obtain ⟨w1, hw1⟩ : ∃ w1, w1 = (w.alloc (.cells #[v] 45)).alloc (.cells #[v'] 45) := ⟨_, rfl⟩
  have hE : Ext w w1 := by rw [hw1]; exact ((Ext.refl w).alloc _).alloc _
  obtain ⟨b, hbb⟩ : ∃ b, b = w.heap.size := ⟨_, rfl⟩
  have hV : Var w1 b v := by rw [hw1, hbb]; exact (Var.new w v 45).ext ((Ext.refl _).alloc _)
  have hV' : Var w1 (b + 1) v' := by
    have := Var.new (w.alloc (.cells #[v] 45)) v' 45
    rw [World.size_alloc, ← hbb] at this
    rw [hw1]; exact this
  have h1 := h.ext hE
  have h1' := h'.ext hE
  obtain ⟨a1, c1, rfl⟩ := h.isSlice
  obtain ⟨a2, c2, rfl⟩ := h'.isSlice
  simp
  rw [← hw1, ← hbb]
  by_cases hl : s.length = s'.length
  · have hlb : ((s.length : Int) != (s'.length : Int)) = false := by simp; omega
    simp [hlb]
    refine WC_loop (fun k ρ ds w' => ∃ i : Nat, k = s.length - i ∧ i ≤ s.length ∧ ρ 2 = ptr b ∧ ρ 3 = ptr (b + 1) ∧ ρ 5 = .int .i64 i ∧ ds = [] ∧ Ext w1 w' ∧ s.take i = s'.take i) s.length ⟨0, by simp [Ext.refl]⟩ ?_
    rintro k ρ ds w2 ⟨i, rfl, hi, e2, e3, e5, rfl, hE2, htk⟩
    have wi : IntKind.i64.wrap ((i : Int) + 1) = ((i + 1 : Nat) : Int) := wnat _ _ (by omega) (by omega)
    have hV2 := hV.ext hE2
    by_cases hlt : i < s.length
    · have hlt' : i < s'.length := by omega
      have hdl : decide ((i : Int) < (s.length : Int)) = true := by simp; omega
      simp [e2, e5, hV2.cell, hlt]
      refine WC_drawC 10 (.F 0 <| .F 1 <| .F 2 <| .F 3 <| .F 4 <| .F 5 <| .F 6 <| .F 7 <| .F 8 <| .F 9 <| .Z) (fun _ => false) rfl (by kernel_rfl) fun W hW => ?_
      have hWE := hE2.trans (hW ▸ Ext.drew _)
      have hVW := hV.ext hWE
      have hVW' := hV'.ext hWE
      obtain ⟨p1, p2⟩ := pairCells_at s i s[i] (List.getElem?_eq_getElem hlt)
      obtain ⟨p3, p4⟩ := pairCells_at s' i s'[i] (List.getElem?_eq_getElem hlt')
      have d1 := (h1.ext hWE).at_ _ _ p1
      have d2 := (h1.ext hWE).at_ _ _ p2
      have d3 := (h1'.ext hWE).at_ _ _ p3
      have d4 := (h1'.ext hWE).at_ _ _ p4
      simp only [← Nat.add_assoc] at d2 d4
      have ix := fun W => h1.index (P := Try.prog) (t := 43) (by simp) .i64 i (by omega) (by omega) W
      have ix' := fun W => h1'.index (P := Try.prog) (t := 43) (by simp) .i64 i (by omega) (by omega) W
      simp [e2, e3, e5, hVW.cell, hVW'.cell, ix, ix', d1, d2, d3, d4, neq84]
      by_cases hq : s[i] = s'[i]
      · have q1 : decide (s[i].1 = s'[i].1) = true := by rw [hq]; simp
        have q2 : decide (s[i].2 = s'[i].2) = true := by rw [hq]; simp
        simp [q1, q2, e2, e3, e5]
        rw [wi]
        refine ⟨s.length - (i + 1), by omega, i + 1, rfl, by omega, rfl, hWE, ?_⟩
        rw [List.take_add_one, List.take_add_one, htk, List.getElem?_eq_getElem hlt, List.getElem?_eq_getElem hlt', hq]
      · have q1 : (!decide (s[i].1 = s'[i].1) || !decide (s[i].2 = s'[i].2)) = true := by
          rw [Prod.ext_iff] at hq
          simp
          by_cases h1 : s[i].1 = s'[i].1
          · exact .inr fun h2 => hq ⟨h1, h2⟩
          · exact .inl h1
        simp [q1]
        refine ⟨?_, hE.trans hWE⟩
        rintro rfl
        exact hq rfl
    · have hie : i = s.length := by omega
      simp [e2, e5, hV2.cell, hlt]
      refine ⟨?_, hE.trans hE2⟩
      rw [hie, List.take_length, hl, List.take_length] at htk
      exact htk
  · have hlb : ((s.length : Int) != (s'.length : Int)) = true := by simp; omega
    simp [hlb]
    refine ⟨?_, hE⟩
    rintro rfl
    exact hl rfl
theorem Rel.eqv {m m' s s' : ML} (h : Rel m s) (h' : Rel m' s') : eqv m m' ↔ s = s' := by
  constructor
  · rintro ⟨h1, h2⟩
    have key : ∀ p, p ∈ s → p ∈ s' := by
      intro p hp
      have hpm := h.perm.mem_iff.1 hp
      have := h2 p hpm
      rw [← h'.get] at this
      exact (mget_iff (asc_nodup h'.asc)).1 this
    have hl : s.length = s'.length := by rw [h.len, h'.len, h1]
    have hnd : s.Nodup := h.asc.imp fun {a b} hab e => by rw [e] at hab; omega
    have hnd' : s'.Nodup := h'.asc.imp fun {a b} hab e => by rw [e] at hab; omega
    have hperm : s.Perm s' := by
      refine (List.perm_ext_iff_of_nodup hnd hnd').2 fun p => ⟨key p, fun hp => ?_⟩
      by_cases hps : p ∈ s
      · exact hps
      · exfalso
        have := sub_le (p :: s) s' (List.nodup_cons.2 ⟨hps, hnd⟩) (fun q hq => by
          rcases List.mem_cons.1 hq with rfl | hq
          · exact hp
          · exact key q hq)
        simp at this
        omega
    exact hperm.eq_of_pairwise (fun a b _ _ h1 h2 => by omega) h.asc h'.asc
  · rintro rfl
    refine ⟨by rw [← h.len, ← h'.len], fun p hp => ?_⟩
    rw [← h'.get]
    exact (mget_iff (asc_nodup h.asc)).2 (h.perm.mem_iff.2 hp)
theorem Sl.map_mod {κ ν : Type} {ek : κ → Value} {ew : ν → Value} {w w' : World} {r sz n : Nat} {m : List (κ × ν)} {v : Value} {cs : List Value} (h : Sl w sz v n cs) (hm : MapAt ek ew w r m) (hM : Mod (· = r) w w') : Sl w' sz v n cs :=
  h.kept fun a u _ hu => by rw [hm.cells hM a (by rw [hu]; rfl), hu]
set_option maxHeartbeats 1000000 in
theorem TreeCopies_c {w : World} {v : Value} {l : List Ac} {q1 q2 : Ac} (hs : SlA w 3 v l.length (actCells l)) (hp : ∀ q ∈ l, 0 ≤ q.a ∧ 0 ≤ q.b) (h1 : 0 ≤ q1.a ∧ 0 ≤ q1.b) (h2 : 0 ≤ q2.a ∧ 0 ≤ q2.b) :
    FN Try.prog 6 [v, .agg #[.int .i64 q1.what, u32 q1.a, u32 q1.b, .int .i64 q2.what, u32 q2.a, u32 q2.b]] w fun e w' => e = .returned (.bool true) ∧ Ext w w' := by
  refine FN_enter Try.func6 rfl rfl (by kernel_rfl) ?_
  have hE0 := (Ext.refl w).alloc (.cells #[.int .i64 q1.what, u32 q1.a, u32 q1.b, .int .i64 q2.what, u32 q2.a, u32 q2.b] 52)
  have ho0 := new_obj w (.cells #[.int .i64 q1.what, u32 q1.a, u32 q1.b, .int .i64 q2.what, u32 q2.a, u32 q2.b] 52)
  obtain ⟨b3, hb3⟩ : ∃ b3, b3 = w.heap.size := ⟨_, rfl⟩
  obtain ⟨w0, hw0⟩ : ∃ w0, w0 = w.alloc (.cells #[.int .i64 q1.what, u32 q1.a, u32 q1.b, .int .i64 q2.what, u32 q2.a, u32 q2.b] 52) := ⟨_, rfl⟩
  rw [← hw0] at hE0 ho0
  rw [← hb3] at ho0
  have hs0 : w0.heap.size = b3 + 1 := by rw [hw0, hb3]; simp
  by_cases h60 : 30 < l.length
  · have hb : decide ((30 : Int) < (l.length : Int)) = true := by simp; omega
    simp [hs.isLen, hb]
    rw [← hw0]
    refine FN.mono (works_c w0) ?_
    rintro _ w1 ⟨rfl, hE⟩
    simp
    exact hE0.trans hE
  · have hb : decide ((30 : Int) < (l.length : Int)) = false := by simp; omega
    simp [hs.isLen, hb]
    rw [← hw0, ← hb3]
    refine FN.mono (new_c w0) ?_
    rintro _ w1 ⟨t, r, rfl, ht, hE, hlt, hlr⟩
    simp
    have hE2 := hE.trans ((Ext.refl w1).alloc (.cells #[.slice none 0 0] 45))
    have ho := new_obj w1 (.cells #[.slice none 0 0] 45)
    have ht2 := ht.ext ((Ext.refl w1).alloc (.cells #[.slice none 0 0] 45))
    obtain ⟨b, hbb⟩ : ∃ b, b = w1.heap.size := ⟨_, rfl⟩
    obtain ⟨w2, hw2⟩ : ∃ w2, w2 = w1.alloc (.cells #[.slice none 0 0] 45) := ⟨_, rfl⟩
    have hrb : r < b := by have := ht.map.lt; omega
    have htb : t < b := by have := World.block_lt_of_cell? _ _ ht.cell; simp at this; omega
    have hwb : b3 + 1 ≤ b := by have := hE.size; omega
    rw [← hw2, ← hbb] at ho
    rw [← hw2] at hE2 ht2 ⊢
    rw [← hbb]
    refine WC_loop (fun k ρ ds w' => ∃ (i : Nat) (m s : ML) (u : Value), k = l.length - i ∧ i ≤ l.length ∧ ρ 0 = v ∧ ρ 3 = ptr b3 ∧ ρ 5 = ptr t ∧ ρ 6 = ptr b ∧ ρ 7 = .int .i64 i ∧ ds = [] ∧ Ext w0 w' ∧
      w'.heap[b]? = some (.cells #[u] 45 (0, 0)) ∧ TreeAt w' t r m ∧ Rws w' u s ∧ Rel m s ∧ Good m) l.length
      ⟨0, [], [], .slice none 0 0, rfl, Nat.zero_le _, by simp, by simp, by simp, by simp, by simp, rfl, hE2, ho, ht2, Sl.nil _ _ _, ⟨List.Pairwise.nil, List.Perm.nil⟩, Good.nil⟩ ?_
    rintro k ρ ds w3 ⟨i, m, s, u, rfl, hi, e0, e3, e5, e6, e7, rfl, hE3, ho3, ht3, hr3, hR, hg⟩
    have wi : IntKind.i64.wrap ((i : Int) + 1) = ((i + 1 : Nat) : Int) := wnat _ _ (by omega) (by omega)
    have hlen := fun ty W => hs.isLen (P := Try.prog) (t := 42) (by simp) ty W
    have hsl3 : u.oneCell' = true := by obtain ⟨z1, z2, rfl⟩ := hr3.isSlice; rfl
    by_cases hlt' : i < l.length
    · obtain ⟨q, hq⟩ : ∃ q, l[i]? = some q := ⟨_, List.getElem?_eq_getElem hlt'⟩
      obtain ⟨hq1, hq2⟩ := hp q (List.mem_of_getElem? hq)
      obtain ⟨c1, c2, c3⟩ := actCells_at l i q hq
      have ix := fun W => hs.index (P := Try.prog) (t := 42) (by simp) .i64 i (by omega) (by omega) W
      have cell : ∀ {W : World}, Ext w0 W → W.cell? ⟨slB v, slO v + i * 3, none⟩ = some (.int .i64 q.what) ∧ W.cell? ⟨slB v, slO v + i * 3 + 1, none⟩ = some (u32 q.a) ∧ W.cell? ⟨slB v, slO v + i * 3 + 2, none⟩ = some (u32 q.b) := by
        intro W hW
        have h' := hs.ext (hE0.trans hW)
        exact ⟨h'.at_ _ _ c1, h'.at_ _ _ c2, h'.at_ _ _ c3⟩
      simp [e0, e7, hlen, hlt']
      refine WC_drawL 11 (.F 0 <| .F 1 <| .F 2 <| .F 3 <| .F 4 <| .F 5 <| .C 6 <| .F 7 <| .F 8 <| .F 9 <| .S 10 <| .Z) (fun k => k == r) (fun k => k == r) (fun _ _ _ => True) rfl (by kernel_rfl) (fun _ h => h) (fun _ _ _ _ _ _ => trivial) fun W hW => ?_
      have hWE : Ext w3 W := hW ▸ Ext.drew w3
      obtain ⟨d1, d2, d3⟩ := cell (hE3.trans hWE)
      have hV4 := Var.of_obj (hWE.obj ho3)
      have hbr : (b == r) = false := by simp; omega
      have hvr : slB v ≠ r := by
        have := World.block_lt_of_cell? _ _ ((hs.at_ _ _ c1))
        simp at this
        omega
      simp [e0, e5, e6, e7, ix, d1, d2, d3, hV4.cell, hbr, hvr]
      refine FN.mono (act_c (ht3.ext hWE) (hr3.ext hWE) hR hg q.what hq1 hq2) ?_
      rintro _ W2 ⟨m', s', u', rfl, ht5, hr5, hR5, hg5, hM2⟩
      simp
      refine KR_mk (hM2.agr fun i hi => by simpa using hi) ?_
      have ho5 := hM2.obj (hWE.obj ho3) (by omega)
      have hV5 := Var.of_obj ho5
      obtain ⟨a5, p5, rfl⟩ := hr5.isSlice
      have hE5 : Ext w0 W2 := (hE3.trans hWE).mod.trans' (S := fun k => w0.heap.size ≤ k) hM2 (fun i hi => by subst hi; exact .inr hlr) |>.ext fun _ h => h
      simp [e6, hV5.cell, hV5.thaw]
      refine KR_set ?_
      have hM7 := Mod.setCell (S := (· = b)) (Mod.refl _ W2) ⟨b, 0, none⟩ (.slice a5 s'.length p5) (.inl rfl)
      have ho7 := set_obj ho5 (.slice a5 s'.length p5)
      have hr7 : Rws (W2.setCell ⟨b, 0, none⟩ (.slice a5 s'.length p5)) (.slice a5 s'.length p5) s' := Sl.off_mod hr5 (x := u) ho5 (by obtain ⟨z1, z2, rfl⟩ := hr3.isSlice; exact pairs_int) hM7
      have ht7 : TreeAt (W2.setCell ⟨b, 0, none⟩ (.slice a5 s'.length p5)) t r m' := ⟨hM7.cell ht5.cell (by simp; omega), ht5.map.mod hM7 (by omega)⟩
      have hE7 : Ext w0 (W2.setCell ⟨b, 0, none⟩ (.slice a5 s'.length p5)) := hE5.setCell _ _ (by simp; omega)
      generalize (W2.setCell ⟨b, 0, none⟩ (.slice a5 s'.length p5)) = W7 at *
      simp [e0, e3, e5, e6, e7]
      rw [wi]
      exact ⟨l.length - (i + 1), by omega, i + 1, rfl, by omega, rfl, hE7, m', s', _, ho7, ht7, hr7, hR5, hg5⟩
    · have hie : i = l.length := by omega
      simp [e0, e7, hlen, hlt', e5]
      refine FN.mono (copy_c ht3) ?_
      rintro _ w4 ⟨t', r', rfl, htc, hE4, hlt4, hlr4⟩
      have hV4 := Var.of_obj (hE4.obj ho3)
      have ho34 := (hE3.trans hE4).obj ho0
      have cellb : ∀ {W : World}, W.heap[b3]? = some (.cells #[.int .i64 q1.what, u32 q1.a, u32 q1.b, .int .i64 q2.what, u32 q2.a, u32 q2.b] 52 (0, 0)) → ∀ j (hj : j < 6), W.cell? ⟨b3, j, none⟩ = (#[Value.int .i64 q1.what, u32 q1.a, u32 q1.b, .int .i64 q2.what, u32 q2.a, u32 q2.b])[j]? := by
        intro W hW j hj
        simp [World.cell?, hW]
      have cb := cellb ho34
      have cb0 := cb 0 (by omega)
      have cb1 := cb 1 (by omega)
      have cb2 := cb 2 (by omega)
      simp at cb0 cb1 cb2
      simp [e3, e5, e6, hV4.cell, cb0, cb1, cb2]
      have hr4 := hr3.ext hE4
      refine FN.mono (act_c (ht3.ext hE4) hr4 hR hg q1.what h1.1 h1.2) ?_
      rintro _ w5 ⟨m1, s1, u1, rfl, ht5, hr5, hR5, hg5, hM5⟩
      have htc5 : TreeAt w5 t' r' m := ⟨hM5.cell htc.cell (by have := ht3.map.lt; simp; omega), htc.map.mod hM5 (by have := ht3.map.lt; omega)⟩
      have hr4' : Rws w5 u s := Sl.map_mod hr4 (ht3.ext hE4).map hM5
      have hE5 : Ext w0 w5 := (hE3.trans hE4).mod.trans' (S := fun k => w0.heap.size ≤ k) hM5 (fun i hi => by subst hi; exact .inr hlr) |>.ext fun _ h => h
      have ho5 := hM5.obj (hE4.obj ho3) (by omega)
      obtain ⟨a5, p5, rfl⟩ := hr5.isSlice
      obtain ⟨b9, hb9⟩ : ∃ b9, b9 = w5.heap.size := ⟨_, rfl⟩
      obtain ⟨w6, hw6⟩ : ∃ w6, w6 = w5.alloc (.cells #[.slice a5 s1.length p5] 45) := ⟨_, rfl⟩
      have ho9 : w6.heap[b9]? = some (.cells #[.slice a5 s1.length p5] 45 (0, 0)) := by rw [hw6, hb9]; exact new_obj _ _
      have hE6 : Ext w5 w6 := by rw [hw6]; exact (Ext.refl _).alloc _
      have ho36 := (hE5.trans hE6).obj ho0
      have cb := cellb ho36
      have cb3 := cb 3 (by omega)
      have cb4 := cb 4 (by omega)
      have cb5 := cb 5 (by omega)
      simp at cb3 cb4 cb5
      have hV6 := Var.of_obj (hE6.obj ho5)
      simp
      rw [← hw6, ← hb9]
      simp [e3, e6, hV6.cell, cb3, cb4, cb5]
      refine FN.mono (act_c (htc5.ext hE6) (hr4'.ext hE6) hR hg q2.what h2.1 h2.2) ?_
      rintro _ w7 ⟨m2, s2, u2, rfl, ht7, hr7, hR7, hg7, hM7⟩
      have hrr : r ≠ r' := by have := ht3.map.lt; omega
      have htr' : t ≠ r' := by have := World.block_lt_of_cell? _ _ ht3.cell; simp at this; omega
      have ht57 : TreeAt w7 t r m1 := ⟨hM7.cell (ht5.ext hE6).cell (by simpa using htr'), (ht5.ext hE6).map.mod hM7 hrr⟩
      have hr57 : Rws w7 (.slice a5 s1.length p5) s1 := Sl.map_mod (hr5.ext hE6) (htc5.ext hE6).map hM7
      have hE7 : Ext w0 w7 := (hE5.trans hE6).mod.trans' (S := fun k => w0.heap.size ≤ k) hM7 (fun i hi => by subst hi; have := hE3.size; exact .inr (by omega)) |>.ext fun _ h => h
      have hr'9 : r' < b9 := by have := htc5.map.lt; omega
      have ho97 := hM7.obj ho9 (by omega)
      obtain ⟨a7, p7, rfl⟩ := hr7.isSlice
      obtain ⟨b11, hb11⟩ : ∃ b11, b11 = w7.heap.size := ⟨_, rfl⟩
      obtain ⟨w8, hw8⟩ : ∃ w8, w8 = w7.alloc (.cells #[.slice a7 s2.length p7] 45) := ⟨_, rfl⟩
      have ho11 : w8.heap[b11]? = some (.cells #[.slice a7 s2.length p7] 45 (0, 0)) := by rw [hw8, hb11]; exact new_obj _ _
      have hE8 : Ext w7 w8 := by rw [hw8]; exact (Ext.refl _).alloc _
      have hV9 := Var.of_obj (hE8.obj ho97)
      have hV11 := Var.of_obj ho11
      have hl1 : s1.length ≤ 1000 := by rw [hR5.len]; have := hg5.few; omega
      have hV97 := Var.of_obj ho97
      simp [hV97.cell]
      rw [← hw8, ← hb11]
      refine FN.mono (rsame_c (hr57.ext hE8) (hr7.ext hE8) hl1) ?_
      rintro _ w9 ⟨rfl, hE9⟩
      have hE89 := hE8.trans hE9
      have ho39 := (hE7.trans hE89).obj ho0
      have cc := fun {W : World} (hW : Ext w9 W) j hj => cellb (hW.obj ho39) j hj
      have g0 := cc (Ext.refl _) 0 (by omega)
      have g1 := cc (Ext.refl _) 1 (by omega)
      simp at g0 g1
      have hV9' := hV9.ext hE9
      simp [e3, e5, hV9'.cell, g1]
      refine FN.mono (lis_c (ht57.ext hE89) (hr57.ext hE89) hR5 hg5 q1.a 1) ?_
      rintro _ w10 ⟨rfl, hE10⟩
      have hV11' := (hV11.ext hE9).ext hE10
      have g4 := cc hE10 4 (by omega)
      simp at g4
      simp [e3, hV11'.cell, g4]
      refine FN.mono (lis_c ((ht7.ext hE89).ext hE10) ((hr7.ext hE89).ext hE10) hR7 hg7 q2.a 2) ?_
      rintro _ w11 ⟨rfl, hE11⟩
      have hE811 := hE89.trans (hE10.trans hE11)
      simp [e5]
      refine FN.mono (tsame_c (ht57.ext hE811) (ht7.ext hE811)) ?_
      rintro _ w12 ⟨rfl, hE12⟩
      have heq := hR5.eqv hR7
      have heq' := hR7.eqv hR5
      have hd : decide (eqv m1 m2) = decide (s1 = s2) := by simp only [heq]
      have hd' : decide (eqv m2 m1) = decide (s1 = s2) := by
        have : s2 = s1 ↔ s1 = s2 := eq_comm
        simp only [heq', this]
      rw [hd]
      simp [e5]
      refine FN.mono (tsame_c ((ht7.ext hE811).ext hE12) ((ht57.ext hE811).ext hE12)) ?_
      rintro _ w13 ⟨rfl, hE13⟩
      rw [hd']
      simp [e5]
      refine FN.mono (tsame_nil ((ht57.ext hE811).ext (hE12.trans hE13))) ?_
      rintro _ _ ⟨rfl, hw⟩
      subst hw
      simp
      refine FN.mono (works_c _) ?_
      rintro _ w14 ⟨rfl, hE14⟩
      simp
      exact hE0.trans (hE7.trans (hE811.trans (hE12.trans (hE13.trans hE14))))
end Go.Proofs
