/-
  Contracts of the functions that the law reaches,step by step.
-/
import Derived.Test.YtmmneeomcefgbaaGreatDoorScG
namespace Go.Proofs
open Pk
set_option maxRecDepth 10000
attribute [local simp] beq_dec bne_dec
/-! ### The words -/
theorem bbeq (a b : Tx) : ((⟨a.toArray⟩ : ByteArray) == ⟨b.toArray⟩) = decide (a = b) := by
  have : ((⟨a.toArray⟩ : ByteArray) == ⟨b.toArray⟩) = (a.toArray == b.toArray) := rfl
  rw [this]
  by_cases h : a = b
  · subst h; simp
  · simp [h]
theorem keyEq_str {K : TypeId} (hK : Tryz.prog.underlying K = some .string) : KeyEq Tryz.prog K tv where
  find := by
    intro k es m w he
    have hu := run_und hK w
    have key : ∀ (es : List MapEntry) (m : List Tx) (i : Nat), es.map (·.key) = m.map tv →
        Instr.findNow .string (tv k) es i = some ((m.findIdx? (fun x => decide (x = k))).bind fun j => (es[j]?).map fun e => (i + j,e.val)) := by
      intro es
      induction es with
      | nil => intro m i h; cases m with
        | nil => rfl
        | cons => simp at h
      | cons e es ih =>
        intro m i h
        cases m with
        | nil => simp at h
        | cons x m =>
          simp only [List.map_cons,List.cons.injEq] at h
          simp only [Instr.findNow,h.1,Instr.sameNow,List.findIdx?_cons]
          by_cases hx : x = k
          · subst hx; simp [bbeq]
          · have h1 : ((⟨k.toArray⟩ : ByteArray) == ⟨x.toArray⟩) = false := by
              rw [bbeq]; simpa using Ne.symm hx
            simp only [h1,ih m (i + 1) h.2,hx,decide_false]
            cases m.findIdx? (fun x => decide (x = k)) with
            | none => rfl
            | some j => simp only [Option.map_some,Option.bind_some]; congr 2; funext e; congr 1; omega
    unfold Instr.findKey
    simp only [Sem.run_bind,hu,Result.andThen_ok,key es m 0 he,Sem.run_pure]
    simp
  check := by
    intro b k w
    have hu := run_und hK w
    have e : ∀ d, (Instr.checkKey b (d + 1) K (tv k)).run Tryz.prog w = .ok () w := fun d => by
      simp only [Instr.checkKey,Sem.run_bind,hu,Result.andThen_ok,Sem.run_pure]
    exact e 9999
  same := by
    intro k w
    have e : Instr.sameBits 10000 (tv k) (tv k) = true := by
      have h : ((⟨k.toArray⟩ : ByteArray) == ⟨k.toArray⟩) = true := by rw [bbeq]; simp
      exact h
    unfold Instr.keyThatStays
    rw [if_pos e]
    rfl
abbrev agE (l : List Value) : Value := .agg l.toArray
abbrev fnV (f : Nat) : Value := .func (.func f) #[] #[]
abbrev fnP (f b : Nat) : Value := .func (.func f) #[] #[ptr b]
def lnL (f1 f2 : Nat) : List (Tx × List Value) :=
  [([110, 111, 100, 101], [i64 1, fnV 45, fnV 48]), ([111, 112, 101, 110], [i64 2, fnV 112, fnP 113 f1]), ([99, 108, 111, 115, 101], [i64 2, fnV 112, fnP 113 f2]),
   ([115,101,110,100],[i64 3,fnV 114,fnV 117]),([109,101,109,98,101,114],[i64 8,fnV 120,fnV 121]),([116,101,108,108],[i64 16,fnV 122,fnV 124]),
   ([97,105,114],[i64 4,fnV 55,fnV 57]),([108,105,103,104,116],[i64 5,fnV 59,fnV 61]),([112,108,97,110],[i64 6,fnV 63,fnV 65]),([115,116,101,112],[i64 7,fnV 66,fnV 67]),
   ([116,114,101,101],[i64 9,fnV 68,fnV 69]),([115,101,114,118,101],[i64 10,fnV 70,fnV 72]),([108,97,110,100],[i64 11,fnV 74,fnV 75]),([116,105,99,107],[i64 12,fnV 76,fnV 77]),
   ([99,114,97,115,104],[i64 13,fnV 78,fnV 80]),([97,114,109],[i64 14,fnV 82,fnV 83]),([97,115,107],[i64 15,fnV 84,fnV 85])]
theorem kst : KeyEq Tryz.prog 9 tv := keyEq_str (by simp)
theorem tln : Tryz.prog.underlying 73 = some (.map 9 78) := by simp
theorem zln (w : World) : (zeroValue 78).run Tryz.prog w = .ok (agE [i64 0,.nilFunc,.nilFunc]) w := by simp
theorem sopens_c (is : Bool) (w : World) : FN Tryz.prog 51 [.bool is] w fun e w' => ∃ f, e = .returned (agE [i64 2, fnV 112, fnP 113 f]) ∧ Var w' f (.bool is) ∧ w.heap.size ≤ f ∧ Ext w w' := by
  refine FN_enter Tryz.func51 rfl rfl (by kernel_rfl) ?_
  simp
  have hE1 : Ext w (w.alloc (.cells #[.bool is] 4)) := (Ext.refl w).alloc _
  have v1 : Var (w.alloc (.cells #[.bool is] 4)) w.heap.size (.bool is) := Var.new w _ _
  exact ⟨v1.ext ((Ext.refl _).alloc _),hE1.alloc _⟩
theorem sletters_c (w : World) : FN Tryz.prog 52 [] w fun e w' => e = .returned (agE [i64 3, fnV 114, fnV 117]) ∧ Ext w w' := by
  refine FN_enter Tryz.func52 rfl rfl (by kernel_rfl) ?_
  simp
  exact (Ext.refl w).alloc _
theorem smembers_c (w : World) : FN Tryz.prog 53 [] w fun e w' => e = .returned (agE [i64 8, fnV 120, fnV 121]) ∧ Ext w w' := by
  refine FN_enter Tryz.func53 rfl rfl (by kernel_rfl) ?_
  simp
  exact (Ext.refl w).alloc _
theorem stells_c (w : World) : FN Tryz.prog 54 [] w fun e w' => e = .returned (agE [i64 16, fnV 122, fnV 124]) ∧ Ext w w' := by
  refine FN_enter Tryz.func54 rfl rfl (by kernel_rfl) ?_
  simp
  exact (Ext.refl w).alloc _
set_option maxHeartbeats 4000000 in
theorem slines_c (w : World) : FN Tryz.prog 23 [] w fun e w' => ∃ r f1 f2, e = .returned (.map (some r)) ∧ MapAt tv agE w' r (lnL f1 f2) ∧ Var w' f1 (.bool true) ∧ Var w' f2 (.bool false) ∧ w.heap.size ≤ r ∧ w.heap.size ≤ f1 ∧ w.heap.size ≤ f2 ∧ Ext w w' := by
  refine FN_enter Tryz.func23 rfl rfl (by kernel_rfl) ?_
  have m0 := MapAt.alloc0 tv agE w
  have h0 : Mod (fun k => w.heap.size ≤ k) w (w.alloc (.map #[] 0)) := ((Ext.refl w).alloc _).mod
  simp
  obtain ⟨r,hr⟩ : ∃ r,r = w.heap.size := ⟨_,rfl⟩
  rw [← hr] at m0 ⊢
  generalize (w.alloc (.map #[] 0)) = w0 at *
  obtain ⟨w1,u1,m1,H1,-⟩ := m0.update (P := Tryz.prog) kst tln [110,111,100,101] [i64 1,fnV 45,fnV 48]
  have h1 := h0.trans (H1.weaken fun k hk => by omega)
  simp [u1]
  refine FN.mono (sopens_c true w1) ?_
  rintro _ w1c ⟨f1,rfl,vf1,gf1,E1⟩
  have zf1 := h1.size
  have M1 := m1.ext E1
  have hc1 := h1.trans E1.mod
  have L1 := m1.lt
  obtain ⟨w2,u2,m2,H2,-⟩ := M1.update (P := Tryz.prog) kst tln [111,112,101,110] [i64 2,fnV 112,fnP 113 f1]
  have h2 := hc1.trans (H2.weaken fun k hk => by omega)
  have vf1 := vf1.mod H2 (by omega)
  simp [u2]
  refine FN.mono (sopens_c false w2) ?_
  rintro _ w2c ⟨f2,rfl,vf2,gf2,E2⟩
  have zf2 := h2.size
  have vf1 := vf1.ext E2
  have M2 := m2.ext E2
  have hc2 := h2.trans E2.mod
  have L2 := m2.lt
  obtain ⟨w3,u3,m3,H3,-⟩ := M2.update (P := Tryz.prog) kst tln [99,108,111,115,101] [i64 2,fnV 112,fnP 113 f2]
  have h3 := hc2.trans (H3.weaken fun k hk => by omega)
  have vf1 := vf1.mod H3 (by omega)
  have vf2 := vf2.mod H3 (by omega)
  simp [u3]
  refine FN.mono (sletters_c w3) ?_
  rintro _ w3c ⟨rfl,E3⟩
  have M3 := m3.ext E3
  have hc3 := h3.trans E3.mod
  obtain ⟨w4,u4,m4,H4,-⟩ := M3.update (P := Tryz.prog) kst tln [115,101,110,100] [i64 3,fnV 114,fnV 117]
  have h4 := hc3.trans (H4.weaken fun k hk => by omega)
  have vf1 := (vf1.ext E3).mod H4 (by omega)
  have vf2 := (vf2.ext E3).mod H4 (by omega)
  simp [u4]
  refine FN.mono (smembers_c w4) ?_
  rintro _ w4c ⟨rfl,E4⟩
  have M4 := m4.ext E4
  have hc4 := h4.trans E4.mod
  obtain ⟨w5,u5,m5,H5,-⟩ := M4.update (P := Tryz.prog) kst tln [109,101,109,98,101,114] [i64 8,fnV 120,fnV 121]
  have h5 := hc4.trans (H5.weaken fun k hk => by omega)
  have vf1 := (vf1.ext E4).mod H5 (by omega)
  have vf2 := (vf2.ext E4).mod H5 (by omega)
  simp [u5]
  refine FN.mono (stells_c w5) ?_
  rintro _ w5c ⟨rfl,E5⟩
  have M5 := m5.ext E5
  have hc5 := h5.trans E5.mod
  obtain ⟨w6,u6,m6,H6,-⟩ := M5.update (P := Tryz.prog) kst tln [116,101,108,108] [i64 16,fnV 122,fnV 124]
  have h6 := hc5.trans (H6.weaken fun k hk => by omega)
  have vf1 := (vf1.ext E5).mod H6 (by omega)
  have vf2 := (vf2.ext E5).mod H6 (by omega)
  obtain ⟨w7,u7,m7,H7,-⟩ := m6.update (P := Tryz.prog) kst tln [97,105,114] [i64 4,fnV 55,fnV 57]
  have h7 := h6.trans (H7.weaken fun k hk => by omega)
  have vf1 := vf1.mod H7 (by omega)
  have vf2 := vf2.mod H7 (by omega)
  obtain ⟨w8,u8,m8,H8,-⟩ := m7.update (P := Tryz.prog) kst tln [108,105,103,104,116] [i64 5,fnV 59,fnV 61]
  have h8 := h7.trans (H8.weaken fun k hk => by omega)
  have vf1 := vf1.mod H8 (by omega)
  have vf2 := vf2.mod H8 (by omega)
  obtain ⟨w9,u9,m9,H9,-⟩ := m8.update (P := Tryz.prog) kst tln [112,108,97,110] [i64 6,fnV 63,fnV 65]
  have h9 := h8.trans (H9.weaken fun k hk => by omega)
  have vf1 := vf1.mod H9 (by omega)
  have vf2 := vf2.mod H9 (by omega)
  obtain ⟨w10,u10,m10,H10,-⟩ := m9.update (P := Tryz.prog) kst tln [115,116,101,112] [i64 7,fnV 66,fnV 67]
  have h10 := h9.trans (H10.weaken fun k hk => by omega)
  have vf1 := vf1.mod H10 (by omega)
  have vf2 := vf2.mod H10 (by omega)
  obtain ⟨w11,u11,m11,H11,-⟩ := m10.update (P := Tryz.prog) kst tln [116,114,101,101] [i64 9,fnV 68,fnV 69]
  have h11 := h10.trans (H11.weaken fun k hk => by omega)
  have vf1 := vf1.mod H11 (by omega)
  have vf2 := vf2.mod H11 (by omega)
  obtain ⟨w12,u12,m12,H12,-⟩ := m11.update (P := Tryz.prog) kst tln [115,101,114,118,101] [i64 10,fnV 70,fnV 72]
  have h12 := h11.trans (H12.weaken fun k hk => by omega)
  have vf1 := vf1.mod H12 (by omega)
  have vf2 := vf2.mod H12 (by omega)
  obtain ⟨w13,u13,m13,H13,-⟩ := m12.update (P := Tryz.prog) kst tln [108,97,110,100] [i64 11,fnV 74,fnV 75]
  have h13 := h12.trans (H13.weaken fun k hk => by omega)
  have vf1 := vf1.mod H13 (by omega)
  have vf2 := vf2.mod H13 (by omega)
  obtain ⟨w14,u14,m14,H14,-⟩ := m13.update (P := Tryz.prog) kst tln [116,105,99,107] [i64 12,fnV 76,fnV 77]
  have h14 := h13.trans (H14.weaken fun k hk => by omega)
  have vf1 := vf1.mod H14 (by omega)
  have vf2 := vf2.mod H14 (by omega)
  obtain ⟨w15,u15,m15,H15,-⟩ := m14.update (P := Tryz.prog) kst tln [99,114,97,115,104] [i64 13,fnV 78,fnV 80]
  have h15 := h14.trans (H15.weaken fun k hk => by omega)
  have vf1 := vf1.mod H15 (by omega)
  have vf2 := vf2.mod H15 (by omega)
  obtain ⟨w16,u16,m16,H16,-⟩ := m15.update (P := Tryz.prog) kst tln [97,114,109] [i64 14,fnV 82,fnV 83]
  have h16 := h15.trans (H16.weaken fun k hk => by omega)
  have vf1 := vf1.mod H16 (by omega)
  have vf2 := vf2.mod H16 (by omega)
  obtain ⟨w17,u17,m17,H17,-⟩ := m16.update (P := Tryz.prog) kst tln [97,115,107] [i64 15,fnV 84,fnV 85]
  have h17 := h16.trans (H17.weaken fun k hk => by omega)
  have vf1 := vf1.mod H17 (by omega)
  have vf2 := vf2.mod H17 (by omega)
  simp [u6,u7,u8,u9,u10,u11,u12,u13,u14,u15,u16,u17]
  refine ⟨f1,f2,?_,vf1,vf2,by have := h1.size; omega,by have := h2.size; omega,h17.ext fun _ h => hr ▸ h⟩
  exact (show _ = lnL f1 f2 from by kernel_rfl) ▸ m17
end Go.Proofs
