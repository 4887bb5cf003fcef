/-
  Contracts of the functions that the law reaches, step by step.
-/
import Derived.Test.YthamfghcfjhifaaGreatDoorAeA
import Derived.Test.YthamfghcfjhifaaGreatDoorEngAH
namespace Go.Proofs
open Pk
set_option maxRecDepth 10000
/-- Behind a function that has given up: its error is kept, and what it told is cleared. -/
theorem ccaught_panic {b : Nat} {e0 e : Int} {f : Value} {w : World} {R : World → Prop} (hb : Var w b (i64 e0)) (hf : CV Tryz.prog f [] (w.setCell ⟨b, 0, none⟩ (i64 e)) fun en w' => (∃ v, en = .returned v) ∧ R w') :
    CallsDIn (FR none) 0 Tryz.prog 49 #[ptr b, f] (.panicking [⟨.iface 32 (i64 e), false, false⟩]) w fun en u' w' => (∃ v, en = .returned v) ∧ settle u' = .returning ∧ R w' := by
  refine callsDIn_of_wpSIn Tryz.func49 rfl trivial fun c₀ cs hu => ?_
  apply wpSIn_seq
  apply wpSIn_region
  simp [wpOpsSIn, go_sem, recoverD, hu, Exit.thenS]
  refine wpSIn_of_wpIn rfl ?_
  obtain ⟨T, hT⟩ : ∃ T : Array Value, T = #[ptr b, f] ++ ((Array.replicate 12 undef).setIfInBounds 3 (.iface 32 (i64 e))).setIfInBounds 2 (.iface 32 (i64 e)) := ⟨_, rfl⟩
  rw [← hT]
  have hA : Ag 14 T (fun t => T.getD t undef) := ⟨by rw [hT]; simp, fun _ _ => rfl⟩
  have t0 : T.getD 0 undef = ptr b := by rw [hT]; rfl
  have t1 : T.getD 1 undef = f := by rw [hT]; rfl
  have t4 : T.getD 4 undef = .iface 32 (i64 e) := by rw [hT]; rfl
  generalize hρ : (fun t => T.getD t undef : Env) = ρ at hA
  have r0 : ρ 0 = ptr b := by rw [← hρ]; exact t0
  have r1 : ρ 1 = f := by rw [← hρ]; exact t1
  have r4 : ρ 4 = .iface 32 (i64 e) := by rw [← hρ]; exact t4
  refine wpIn_mono (vc_sound (r := none) _ (fun e _ ds w' => e = .normal ∧ ds = [] ∧ R w') ρ [] w ?_ (by kernel_rfl) _ hA) ?_
  · have hn : ∀ W, (binOp .neq 20 (.iface 32 (i64 e)) .nilIface).run Tryz.prog W = .ok (.bool true) W := fun W => by simp [go_sem]
    have hta : ∀ W, (Instr.typeAssert (.iface 32 (i64 e)) 20 32 false).run Tryz.prog W = .ok (i64 e) W := fun W => by kernel_rfl
    simp [r0, r1, r4, hb.cell, hb.thaw, hn, hta]
    refine CV.mono hf ?_
    rintro _ w' ⟨⟨v, rfl⟩, hR⟩
    simp
    exact hR
  · rintro _ a w' ⟨ρ', hA', rfl, hd, hR⟩
    exact ⟨hd, _, rfl, .tuple #[], by simp [results], ⟨_, rfl⟩, rfl, hR⟩
theorem cLV_panic {rs : Array ResultVar} {R : Ending → World → Prop} {ρ : Env} {ds : List Deferred} {w : World} {b : Nat} {e0 e : Int} {f : Value} (hb : Var w b (i64 e0)) (hf : CV Tryz.prog f [] (w.setCell ⟨b, 0, none⟩ (i64 e)) fun en w' => (∃ v, en = .returned v) ∧ LV Tryz.prog rs R ρ ds .returning w') :
    LV Tryz.prog rs R ρ ({ target := .fn (.func 49) #[], args := #[ptr b, f] } :: ds) (.panicking [⟨.iface 32 (i64 e), false, false⟩]) w := by
  refine ⟨by simp, .inr ⟨.func 49, #[], 49, #[ptr b, f], rfl, ?_, ?_⟩⟩
  · have := callFunc_enter Tryz.func49 rfl rfl #[ptr b, f] w
    simp [invoke]
  · refine (ccaught_panic hb hf).mono ?_
    rintro en u' w' ⟨⟨v, rfl⟩, hu, hR⟩
    show LV _ _ _ _ _ (settle u') _
    rw [hu]
    exact hR
/-- Behind a function that has given up: its error is kept, and what it told is cleared. -/
theorem acaught_panic {b : Nat} {e0 e : Int} {f : Value} {w : World} {R : World → Prop} (hb : Var w b (i64 e0)) (hf : CV Tryz.prog f [] (w.setCell ⟨b, 0, none⟩ (i64 e)) fun en w' => (∃ v, en = .returned v) ∧ R w') :
    CallsDIn (FR none) 0 Tryz.prog 34 #[ptr b, f] (.panicking [⟨.iface 32 (i64 e), false, false⟩]) w fun en u' w' => (∃ v, en = .returned v) ∧ settle u' = .returning ∧ R w' := by
  refine callsDIn_of_wpSIn Tryz.func34 rfl trivial fun c₀ cs hu => ?_
  apply wpSIn_seq
  apply wpSIn_region
  simp [wpOpsSIn, go_sem, recoverD, hu, Exit.thenS]
  refine wpSIn_of_wpIn rfl ?_
  obtain ⟨T, hT⟩ : ∃ T : Array Value, T = #[ptr b, f] ++ ((Array.replicate 12 undef).setIfInBounds 3 (.iface 32 (i64 e))).setIfInBounds 2 (.iface 32 (i64 e)) := ⟨_, rfl⟩
  rw [← hT]
  have hA : Ag 14 T (fun t => T.getD t undef) := ⟨by rw [hT]; simp, fun _ _ => rfl⟩
  have t0 : T.getD 0 undef = ptr b := by rw [hT]; rfl
  have t1 : T.getD 1 undef = f := by rw [hT]; rfl
  have t4 : T.getD 4 undef = .iface 32 (i64 e) := by rw [hT]; rfl
  generalize hρ : (fun t => T.getD t undef : Env) = ρ at hA
  have r0 : ρ 0 = ptr b := by rw [← hρ]; exact t0
  have r1 : ρ 1 = f := by rw [← hρ]; exact t1
  have r4 : ρ 4 = .iface 32 (i64 e) := by rw [← hρ]; exact t4
  refine wpIn_mono (vc_sound (r := none) _ (fun e _ ds w' => e = .normal ∧ ds = [] ∧ R w') ρ [] w ?_ (by kernel_rfl) _ hA) ?_
  · have hn : ∀ W, (binOp .neq 20 (.iface 32 (i64 e)) .nilIface).run Tryz.prog W = .ok (.bool true) W := fun W => by simp [go_sem]
    have hta : ∀ W, (Instr.typeAssert (.iface 32 (i64 e)) 20 32 false).run Tryz.prog W = .ok (i64 e) W := fun W => by kernel_rfl
    simp [r0, r1, r4, hb.cell, hb.thaw, hn, hta]
    refine CV.mono hf ?_
    rintro _ w' ⟨⟨v, rfl⟩, hR⟩
    simp
    exact hR
  · rintro _ a w' ⟨ρ', hA', rfl, hd, hR⟩
    exact ⟨hd, _, rfl, .tuple #[], by simp [results], ⟨_, rfl⟩, rfl, hR⟩
theorem aLV_panic {rs : Array ResultVar} {R : Ending → World → Prop} {ρ : Env} {ds : List Deferred} {w : World} {b : Nat} {e0 e : Int} {f : Value} (hb : Var w b (i64 e0)) (hf : CV Tryz.prog f [] (w.setCell ⟨b, 0, none⟩ (i64 e)) fun en w' => (∃ v, en = .returned v) ∧ LV Tryz.prog rs R ρ ds .returning w') :
    LV Tryz.prog rs R ρ ({ target := .fn (.func 34) #[], args := #[ptr b, f] } :: ds) (.panicking [⟨.iface 32 (i64 e), false, false⟩]) w := by
  refine ⟨by simp, .inr ⟨.func 34, #[], 34, #[ptr b, f], rfl, ?_, ?_⟩⟩
  · have := callFunc_enter Tryz.func34 rfl rfl #[ptr b, f] w
    simp [invoke]
  · refine (acaught_panic hb hf).mono ?_
    rintro en u' w' ⟨⟨v, rfl⟩, hu, hR⟩
    show LV _ _ _ _ _ (settle u') _
    rw [hu]
    exact hR
end Go.Proofs
namespace Go.Proofs
open Pk
set_option maxRecDepth 10000
/-! ### Rows that are given, cut -/
section
variable {P : Program} {w : World} {s n : Nat} {v : Value} {cs : List Value} {t : TypeId}
theorem slb_low (h : SlB w s v n cs) (hs : isS (P.underlying t) = true) (hz : ∀ W, (Go.sizeOf (elemT (P.underlying t))).run P W = .ok s W) (k : IntKind) (i : Nat) (hi : i ≤ n) :
    (∀ W, (Instr.sliceAt t v (some (.int k i)) none none).run P W = .ok (slcL v i s) W) ∧ SlB w s (slcL v i s) (n - i) (cs.drop (i * s)) := by
  by_cases h0 : 0 < n
  · refine ⟨fun W => ?_, (h.dropL h0 i hi).toB⟩
    rw [h.sliceL h0 hs k i (by omega) (by omega) W, hz]
    rfl
  · obtain rfl : n = 0 := by omega
    obtain rfl : i = 0 := by omega
    have hcs : cs = [] := List.eq_nil_of_length_eq_zero (by simpa using h.len)
    subst hcs
    obtain ⟨ao, c, rfl, -, -⟩ := h.val
    refine ⟨fun W => ?_, ⟨by simp, ⟨_, _, rfl, by omega, fun h => by omega⟩, fun j u hj => by simp at hj⟩⟩
    have hz' := hz W
    rw [elemT_of hs] at hz'
    rw [run_sliceAt_slice W t _ _ _ _ (elem_of hs)]
    have := run_slice_l W t ao 0 c (elem_of hs) k 0 (by omega) (by omega)
    rw [hz'] at this
    exact this
theorem slb_high (h : SlB w s v n cs) (hs : isS (P.underlying t) = true) (hz : ∀ W, (Go.sizeOf (elemT (P.underlying t))).run P W = .ok s W) (k : IntKind) (i : Nat) (hi : i ≤ n) :
    (∀ W, (Instr.sliceAt t v none (some (.int k i)) none).run P W = .ok (slcH v i) W) ∧ SlB w s (slcH v i) i (cs.take (i * s)) := by
  by_cases h0 : 0 < n
  · refine ⟨fun W => ?_, ((h.toSl h0).takeH i hi).toB⟩
    rw [(h.toSl h0).sliceH hs k i (by omega) (by omega) W, hz]
    rfl
  · obtain rfl : n = 0 := by omega
    obtain rfl : i = 0 := by omega
    have hcs : cs = [] := List.eq_nil_of_length_eq_zero (by simpa using h.len)
    subst hcs
    obtain ⟨ao, c, rfl, -, -⟩ := h.val
    refine ⟨fun W => ?_, ⟨by simp, ⟨_, _, rfl, by omega, fun h => by omega⟩, fun j u hj => by simp at hj⟩⟩
    have hz' := hz W
    rw [elemT_of hs] at hz'
    rw [run_sliceAt_slice W t _ _ _ _ (elem_of hs)]
    have := run_slice_h W t ao 0 c (elem_of hs) k 0 (by omega) (by omega)
    rw [hz'] at this
    rw [show (slcH (.slice ao 0 c) 0) = sliced ao 0 (Int.toNat 0) c s by
      cases ao with
      | none => simp [slcH, sliced]
      | some a =>
        obtain ⟨b, o, m⟩ := a
        simp [slcH, sliced, Addr.add]]
    exact this
end
theorem zb1 (W : World) : (Go.sizeOf (elemT (Tryz.prog.underlying 31))).run Tryz.prog W = .ok 1 W := by simp
theorem zl1 (W : World) : (Go.sizeOf (elemT (Tryz.prog.underlying 162))).run Tryz.prog W = .ok 1 W := by simp
theorem u8one {l : List Int} : ∀ u ∈ l.map u8, u.oneCell' = true := fun u hu => by obtain ⟨z, -, rfl⟩ := List.mem_map.1 hu; rfl
theorem clone_c {w : World} {v : Value} {l : List Int} (h : SlB w 1 v l.length (l.map u8)) (hl : l.length ≤ 1000000) : FN Tryz.prog 169 [v] w fun e w' => ∃ v', e = .returned v' ∧ w'.ownsRow w.heap.size 5 1 v' l.length (l.map u8) ∧ Ext w w' := by
  obtain ⟨ao, c, rfl, -, ha⟩ := h.val
  refine FN_enter Tryz.func169 rfl rfl (by kernel_rfl) ?_
  simp
  cases ao with
  | none =>
    have h0 : l.length = 0 := by
      rcases Nat.eq_zero_or_pos l.length with h | h
      · exact h
      · obtain ⟨b, o, hb⟩ := ha h; cases hb
    have hl0 : l = [] := List.eq_nil_of_length_eq_zero h0
    subst hl0
    simp
    exact ⟨World.ownsRow_nil w _ _ _, Ext.refl w⟩
  | some a =>
    have ho := own_empty (e := 5) (s := 1) w w.heap.size (Nat.le_refl _)
    have hE := (Ext.refl w).alloc (.cells #[] 5)
    have s1 := hE.size
    obtain ⟨v', w', hr, ho', hE'⟩ := append_newB (P := Tryz.prog) (t := 162) (ty := 162) (e := 5) (s := 1) (by simp) (by simp) (by kernel_rfl) ho (h.ext hE) u8one hl s1
    simp [hr]
    exact ⟨ho', hE.trans hE'⟩
def beg (b p : List Int) : Bool := decide (p.length ≤ b.length) && decide (b.take p.length = p)
theorem begins_c {w : World} {v p : Value} {l q : List Int} (h : SlB w 1 v l.length (l.map u8)) (hp : SlB w 1 p q.length (q.map u8)) (hl : l.length ≤ 1000000) : FN Tryz.prog 144 [v, p] w fun e w' => e = .returned (.bool (beg l q)) ∧ Ext w w' := by
  refine FN_enter Tryz.func144 rfl rfl (by kernel_rfl) ?_
  have h1 := fun ty W => h.isLen (P := Tryz.prog) (t := 31) (by simp) ty W
  have h2 := fun ty W => hp.isLen (P := Tryz.prog) (t := 31) (by simp) ty W
  unfold beg
  by_cases hle : q.length ≤ l.length
  · obtain ⟨hr, hS⟩ := slb_high (P := Tryz.prog) (t := 31) h (by simp) zb1 .i64 q.length hle
    have hS' : SlB w 1 (slcH v q.length) (l.take q.length).length ((l.take q.length).map u8) := by
      rw [List.length_take, Nat.min_eq_left hle, List.map_take]; simpa using hS
    simp [h1, h2, hle, hr]
    refine FN.mono (beq_c hS' hp (by rw [List.length_take]; omega)) ?_
    rintro _ w2 ⟨rfl, hE⟩
    simp
    exact ⟨fun _ => hle, hE⟩
  · simp [h1, h2, hle]
    exact Ext.refl _
theorem cmust_f (e : Int) (w : World) : FN Tryz.prog 52 [.bool false, i64 e] w fun E w' => E = .panicked (panV e) ∧ w' = w := by
  refine FN_enter Tryz.func52 rfl rfl (by kernel_rfl) ?_
  simp
/-! ### A reader -/
structure Lf (w0 w : World) (r : Nat) (bs : List Int) : Prop where
  v : ∃ v, Blk w r [v] ∧ SlB w0 1 v bs.length (bs.map u8)
  ext : Ext w0 w
  le : w0.heap.size ≤ r
  ok : ∀ x ∈ bs, 0 ≤ x ∧ x ≤ 255
  len : bs.length ≤ 65536
theorem Lf.more {w0 w w' : World} {r : Nat} {bs : List Int} (h : Lf w0 w r bs) (hE : Ext w w') : Lf w0 w' r bs := by
  obtain ⟨v, h1, h2⟩ := h.v
  exact ⟨⟨v, h1.ext hE, h2⟩, h.ext.trans hE, h.le, h.ok, h.len⟩
theorem Lf.mod {w0 w w' : World} {r : Nat} {bs : List Int} (h : Lf w0 w r bs) {S : Nat → Prop} (hM : Mod S w w') (hS : ∀ k, S k → w0.heap.size ≤ k ∧ k ≠ r) : Lf w0 w' r bs := by
  obtain ⟨v, h1, h2⟩ := h.v
  refine ⟨⟨v, h1.mod hM (fun hk => (hS r hk).2 rfl), h2⟩, ?_, h.le, h.ok, h.len⟩
  exact ((h.ext.mod (S := fun k => w0.heap.size ≤ k)).trans (hM.weaken fun k hk => (hS k hk).1)).ext fun _ h => h
theorem Lf.lt {w0 w : World} {r : Nat} {bs : List Int} (h : Lf w0 w r bs) : r < w.heap.size := by
  obtain ⟨v, h1, -⟩ := h.v
  exact h1.lt
set_option maxHeartbeats 1000000 in
theorem take_t {w0 w : World} {r : Nat} {bs : List Int} (h : Lf w0 w r bs) {k : Nat} (hk : k ≤ bs.length) : FN Tryz.prog 145 [ptr r, u64 k] w fun e w' => Mod (fun k => k = r) w w' ∧
    ∃ v, e = .returned v ∧ w'.ownsRow w.heap.size 5 1 v k ((bs.take k).map u8) ∧ Lf w0 w' r (bs.drop k) := by
  obtain ⟨v, hb, hS⟩ := h.v
  refine FN_enter Tryz.func145 rfl rfl (by kernel_rfl) ?_
  have hlen := fun ty W => hS.isLen (P := Tryz.prog) (t := 162) (by simp) ty W
  have hlb := h.len
  have hq : IntKind.u64.wrap (bs.length : Int) = bs.length := by simp [IntKind.wrap, IntKind.signed, IntKind.bits]; omega
  simp [hb.cell 0 _ rfl, hlen, hq, hk]
  refine FN.mono (must_c 121 w) ?_
  rintro _ w1 ⟨⟨u, rfl⟩, hw⟩
  subst hw
  obtain ⟨hr1, hS1⟩ := slb_high (P := Tryz.prog) (t := 162) hS (by simp) zl1 .u64 k hk
  obtain ⟨hr2, hS2⟩ := slb_low (P := Tryz.prog) (t := 162) hS (by simp) zl1 .u64 k hk
  have hS1' : SlB w1 1 (slcH v k) (bs.take k).length ((bs.take k).map u8) := by
    rw [List.length_take, Nat.min_eq_left hk, List.map_take]; simpa using hS1.ext h.ext
  simp [hb.cell 0 _ rfl, hr1]
  refine FN.mono (clone_c hS1' (by rw [List.length_take]; omega)) ?_
  rintro _ w2 ⟨v', rfl, ho, hE⟩
  rw [List.length_take, Nat.min_eq_left hk, List.map_take] at ho
  have b2 := hb.ext hE
  have hlt := hb.lt
  obtain ⟨a2, c2, hv2⟩ := hS2.isSlice
  have b3 := b2.set 0 (slcL v k 1)
  simp only [List.set_cons_zero] at b3
  have hM : Mod (fun j => j = r) w2 (w2.setCell ⟨r, 0, none⟩ (slcL v k 1)) := (Mod.refl _ _).setC _ _
  rw [hv2] at hr2 b3 hM
  simp [b2.cell 0 _ rfl, b2.thaw, hr2]
  refine ⟨hE.mod.trans hM, own_keep ho fun hn hl => hM.blk _ hl (by have := own_ge ho hn; omega), ⟨_, b3, ?_⟩, ?_, h.le, fun x hx => h.ok x (List.mem_of_mem_drop hx), by rw [List.length_drop]; omega⟩
  · rw [List.length_drop, List.map_drop, ← hv2]
    simpa using hS2
  · have hle := h.le
    exact (((h.ext.trans hE).mod (S := fun k => w0.heap.size ≤ k)).trans (hM.weaken fun k hk => by omega)).ext fun _ h => h
theorem take_f {w0 w : World} {r : Nat} {bs : List Int} (h : Lf w0 w r bs) {n : Int} (hn : (bs.length : Int) < n) : FN Tryz.prog 145 [ptr r, u64 n] w fun e w' => e = .panicked (panV 121) ∧ w' = w := by
  obtain ⟨v, hb, hS⟩ := h.v
  refine FN_enter Tryz.func145 rfl rfl (by kernel_rfl) ?_
  have hlen := fun ty W => hS.isLen (P := Tryz.prog) (t := 162) (by simp) ty W
  have hlb := h.len
  have hq : IntKind.u64.wrap (bs.length : Int) = bs.length := by simp [IntKind.wrap, IntKind.signed, IntKind.bits]; omega
  have hn' : ¬ n ≤ (bs.length : Int) := by omega
  simp [hb.cell 0 _ rfl, hlen, hq, hn']
  refine FN.mono (cmust_f 121 w) ?_
  rintro _ w1 ⟨rfl, hw⟩
  subst hw
  simp
/-! ### A number of bytes -/
def ofBe (l : List Int) : Int := l.foldl (fun n c => n * 256 + c) 0
theorem or_low (A c : Nat) (hA : A < 2 ^ 56) (hc : c < 256) : orI .u64 (shlI .u64 (A : Int) 8) (IntKind.u64.wrap (c : Int)) = ((A * 256 + c : Nat) : Int) := by
  have e1 : shlI .u64 (A : Int) 8 = ((A * 256 : Nat) : Int) := by
    unfold shlI
    rw [show min (8 : Int).toNat IntKind.u64.bits = 8 from by decide]
    simp [IntKind.wrap, IntKind.signed, IntKind.bits]
    omega
  have e2 : IntKind.u64.wrap (c : Int) = (c : Int) := by simp [IntKind.wrap, IntKind.signed, IntKind.bits]; omega
  rw [e1, e2]
  unfold orI
  rw [show IntKind.u64.bits = 64 from rfl, BitVec.toNat_or, BitVec.toNat_ofInt, BitVec.toNat_ofInt]
  have m1 : (((A * 256 : Nat) : Int) % ((2 ^ 64 : Nat) : Int)).toNat = A * 256 := by omega
  have m2 : ((c : Int) % ((2 ^ 64 : Nat) : Int)).toNat = c := by omega
  rw [m1, m2]
  have h := Nat.two_pow_add_eq_or_of_lt (i := 8) (b := c) (by omega) A
  have h' : A * 256 ||| c = A * 256 + c := by
    have e : 2 ^ 8 * A = A * 256 := by omega
    rw [e] at h; exact h.symm
  rw [h']
  simp [IntKind.wrap, IntKind.signed, IntKind.bits]
  omega
theorem ofBe_b : ∀ {l : List Int}, (∀ x ∈ l, 0 ≤ x ∧ x ≤ 255) → ∀ i, i ≤ l.length → ∃ A : Nat, ofBe (l.take i) = A ∧ A < 2 ^ (8 * i) := by
  intro l hb i
  induction i with
  | zero => intro _; exact ⟨0, by simp [ofBe], by simp⟩
  | succ i ih =>
    intro hi
    obtain ⟨A, hA, hlt⟩ := ih (by omega)
    have hq := List.getElem?_eq_getElem (l := l) (i := i) (by omega)
    have hx := hb l[i] (List.getElem_mem (by omega))
    have hsuc : ofBe (l.take (i + 1)) = ofBe (l.take i) * 256 + l[i] := by
      rw [List.take_add_one, hq]
      unfold ofBe
      rw [List.foldl_append]
      rfl
    refine ⟨A * 256 + l[i].toNat, by rw [hsuc, hA]; omega, ?_⟩
    have : 2 ^ (8 * (i + 1)) = 2 ^ (8 * i) * 256 := by rw [Nat.mul_add, Nat.pow_add]
    rw [this]
    omega
theorem get_c {w : World} {v : Value} {l : List Int} (h : SlB w 1 v l.length (l.map u8)) (hl : isWid l.length) (hb : ∀ x ∈ l, 0 ≤ x ∧ x ≤ 255) : FN Tryz.prog 170 [v] w fun e w' => e = .returned (.tuple #[u64 (ofBe l), i64 0]) ∧ Ext w w' := by
  refine FN_enter Tryz.func170 rfl rfl (by kernel_rfl) ?_
  have hlen := fun ty W => h.isLen (P := Tryz.prog) (t := 31) (by simp) ty W
  have hd : decide ((l.length : Int) = 1 ∨ (l.length : Int) = 2 ∨ (l.length : Int) = 4 ∨ (l.length : Int) = 8) = true := decide_eq_true hl
  have hl8 : l.length ≤ 8 := by unfold isWid at hl; omega
  have hf : ∀ W, (Instr.field 224 (.agg #[i64 l.length, u64 0]) 0).run Tryz.prog W = .ok (i64 l.length) W := fun W => by kernel_rfl
  simp [hlen, hf]
  refine FN.mono (isW_c (l.length : Int) w) ?_
  rintro _ w1 ⟨rfl, hE1⟩
  simp [hd, hlen]
  refine WC_loop (fun m ρ ds w' => ∃ i : Nat, m = l.length - i ∧ i ≤ l.length ∧ ρ 4 = u64 (ofBe (l.take i)) ∧ ρ 13 = v ∧ ρ 14 = i64 l.length ∧ ρ 15 = i64 i ∧ ds = [] ∧ w' = w1) l.length
    ⟨0, by simp, by simp, by simp [ofBe], by simp, by simp, by simp, rfl, rfl⟩ ?_
  rintro m ρ ds w2 ⟨i, rfl, hi, e4, e13, e14, e15, rfl, rfl⟩
  by_cases hlt : i < l.length
  · have hq := List.getElem?_eq_getElem hlt
    have c := (h.ext hE1).at_ i (u8 l[i]) (by simp [hlt])
    have ix := h.index (P := Tryz.prog) (t := 31) (by simp) .i64 i (by omega) (by omega) w2
    have hsuc : ofBe (l.take (i + 1)) = ofBe (l.take i) * 256 + l[i] := by
      rw [List.take_add_one, hq]
      unfold ofBe
      rw [List.foldl_append]
      rfl
    simp at ix
    obtain ⟨A, hA, hAl⟩ := ofBe_b hb i hi
    have hx := hb l[i] (List.getElem_mem hlt)
    have hA56 : A < 2 ^ 56 := Nat.lt_of_lt_of_le hAl (Nat.pow_le_pow_right (by omega) (by omega))
    have hor : orI .u64 (shlI .u64 (ofBe (l.take i)) 8) (IntKind.u64.wrap l[i]) = ofBe (l.take (i + 1)) := by
      have := or_low A l[i].toNat hA56 (by omega)
      rw [show ((l[i].toNat : Nat) : Int) = l[i] from by omega] at this
      rw [hsuc, hA, this]
      omega
    have hw1 : IntKind.i64.wrap ((i : Int) + 1) = i + 1 := wrap64 _ (by omega) (by omega)
    simp [e4, e13, e14, e15, hlt, ix, c, hor, hw1]
    exact ⟨l.length - (i + 1), by omega, i + 1, rfl, by omega, rfl, by push_cast; rfl⟩
  · obtain rfl : i = l.length := by omega
    rw [List.take_length] at e4
    simp [e4, e14, e15]
    exact hE1
end Go.Proofs
namespace Go.Proofs
open Pk
set_option maxRecDepth 10000
theorem shr5 (c : Int) : shrI .u8 c 5 = c / 32 := by
  unfold shrI
  rw [show min (5 : Int).toNat IntKind.u8.bits = 5 from by decide, Int.fdiv_eq_ediv_of_nonneg]
  · simp
  · decide
theorem and31 {c : Int} (h0 : 0 ≤ c) (h1 : c ≤ 255) : andI .u8 c 31 = c % 32 := by
  obtain ⟨k, rfl⟩ : ∃ k : Nat, c = k := ⟨c.toNat, by omega⟩
  unfold andI
  rw [show IntKind.u8.bits = 8 from rfl, BitVec.toNat_and, BitVec.toNat_ofInt, BitVec.toNat_ofInt]
  have m1 : ((k : Int) % ((2 ^ 8 : Nat) : Int)).toNat = k := by omega
  have m2 : ((31 : Int) % ((2 ^ 8 : Nat) : Int)).toNat = 31 := by decide
  rw [m1, m2, show (31 : Nat) = 2 ^ 5 - 1 from rfl, Nat.and_two_pow_sub_one_eq_mod]
  simp [IntKind.wrap, IntKind.signed, IntKind.bits]
  omega
def headQ (bs rest : List Int) (major n : Int) : Bool := beg bs (headB major n) && decide ((bs.length : Int) - rest.length = (headB major n).length)
def headP : List Int → Option (Int × Int × List Int)
  | [] => none
  | c :: r =>
    if c % 32 < 24 then (if headQ (c :: r) r (c / 32) (c % 32) then some (c / 32, c % 32, r) else none)
    else if c % 32 < 28 then
      (if 2 ^ (c % 32 - 24).toNat ≤ r.length then
        (if headQ (c :: r) (r.drop (2 ^ (c % 32 - 24).toNat)) (c / 32) (ofBe (r.take (2 ^ (c % 32 - 24).toNat))) then some (c / 32, ofBe (r.take (2 ^ (c % 32 - 24).toNat)), r.drop (2 ^ (c % 32 - 24).toNat)) else none)
      else none)
    else none
theorem headP_cons (c : Int) (r : List Int) : headP (c :: r) = if c % 32 < 24 then (if headQ (c :: r) r (c / 32) (c % 32) then some (c / 32, c % 32, r) else none)
    else if c % 32 < 28 then
      (if 2 ^ (c % 32 - 24).toNat ≤ r.length then
        (if headQ (c :: r) (r.drop (2 ^ (c % 32 - 24).toNat)) (c / 32) (ofBe (r.take (2 ^ (c % 32 - 24).toNat))) then some (c / 32, ofBe (r.take (2 ^ (c % 32 - 24).toNat)), r.drop (2 ^ (c % 32 - 24).toNat)) else none)
      else none)
    else none := rfl
def RhR (w0 w w' : World) (r : Nat) (o : Option (Int × Int × List Int)) (e : Ending) : Prop := Mod (fun k => k = r) w w' ∧ match o with
  | none => e = .panicked (panV 121)
  | some (m, n, rest) => e = .returned (.tuple #[i64 m, u64 n]) ∧ Lf w0 w' r rest
set_option maxHeartbeats 2000000 in
theorem rhead_c {w0 w : World} {r : Nat} {bs : List Int} (h : Lf w0 w r bs) : FN Tryz.prog 146 [ptr r] w fun e w' => RhR w0 w w' r (headP bs) e := by
  obtain ⟨v, hb, hS⟩ := h.v
  refine FN_enter Tryz.func146 rfl rfl (by kernel_rfl) ?_
  have hlen := fun ty W => hS.isLen (P := Tryz.prog) (t := 162) (by simp) ty W
  obtain ⟨va, vc, rfl⟩ := hS.isSlice
  cases bs with
  | nil =>
    simp [hb.cell 0 _ rfl]
    refine FN.mono (take_f h (n := 1) (by simp)) ?_
    rintro _ w1 ⟨rfl, hw⟩
    subst hw
    simp
    exact ⟨Mod.refl _ _, rfl⟩
  | cons c r' =>
    have hc := h.ok c (by simp)
    simp [hb.cell 0 _ rfl]
    have ht := take_t h (k := 1) (by simp)
    refine FN.mono (ht) ?_
    rintro _ w1 ⟨hM1, v1, rfl, ho1, hL1⟩
    simp at hL1 ho1
    obtain ⟨a1, c1, rfl⟩ := own_val ho1
    have ix := fun W => (sl_of_own ho1).index (P := Tryz.prog) (t := 31) (by simp) .i64 0 (by omega) (by omega) W
    have c0 := (sl_of_own ho1).at_ 0 (u8 c) rfl
    simp at ix c0
    have w1q : IntKind.i64.wrap (c / 32) = c / 32 := wrap64 _ (by omega) (by omega)
    have w2q : IntKind.u64.wrap (c % 32) = c % 32 := by simp [IntKind.wrap, IntKind.signed, IntKind.bits]; omega
    have hsh := shr5 c
    have han := and31 hc.1 hc.2
    obtain ⟨mj, hmj⟩ : ∃ mj, mj = c / 32 := ⟨_, rfl⟩
    obtain ⟨lo, hlo⟩ : ∃ lo, lo = c % 32 := ⟨_, rfl⟩
    have hmb : 0 ≤ mj ∧ mj ≤ 7 := by omega
    have hlb : 0 ≤ lo ∧ lo < 32 := by omega
    rw [← hmj] at hsh w1q
    rw [← hlo] at han w2q
    have b1 := h.v
    obtain ⟨n0, hn0⟩ : ∃ n0, n0 = r'.length + 1 := ⟨_, rfl⟩
    have hown : SlB w0 1 (.slice va n0 vc) (c :: r').length ((c :: r').map u8) := by rw [hn0]; exact hS
    simp [ix, c0, hsh, han, w1q, w2q]
    rw [← hn0]
    refine with_tail (T := ∀ (σ : Env) (W : World) (n : Int) (rest : List Int), σ 0 = ptr r → σ 4 = .slice va n0 vc → σ 6 = i64 mj → σ 7 = u64 n → 0 ≤ n → Lf w0 W r rest → Mod (fun k => k = r) w W → headP (c :: r') = (if headQ (c :: r') rest mj n then some (mj, n, rest) else none) → WCt Tryz.prog 63 none ?dC ?dQ Tok.mk σ [] W) (fun tail => ?br) ?jn
    case br =>
      by_cases hl24 : lo < 24
      · have hn24 : ¬ 24 ≤ lo := by omega
        simp [hn24]
        refine tail _ _ lo r' ?_ ?_ ?_ ?_ hlb.1 hL1 hM1 ?_
        · simp
        · simp
        · simp
        · simp
        · rw [headP_cons, ← hmj, ← hlo, if_pos hl24]
      · have hn24 : 24 ≤ lo := by omega
        by_cases hl28 : lo < 28
        · obtain ⟨k, hk⟩ : ∃ k : Nat, lo = 24 + k ∧ k ≤ 3 := ⟨(lo - 24).toNat, by omega, by omega⟩
          obtain ⟨d, hd⟩ : ∃ d : Nat, d = 2 ^ k := ⟨_, rfl⟩
          have hdw : isWid d := by
            have hk3 := hk.2
            unfold isWid
            match k, hk3 with
            | 0, _ => simp at hd; omega
            | 1, _ => simp at hd; omega
            | 2, _ => simp at hd; omega
            | 3, _ => simp at hd; omega
          have hsub : IntKind.u64.wrap (lo - 24) = (k : Int) := by rw [hk.1]; simp [IntKind.wrap, IntKind.signed, IntKind.bits]; omega
          have hshl : shlI .u64 1 (k : Int) = (d : Int) := by rw [hd]; exact shlI_one (by omega)
          have hkt : (lo - 24).toNat = k := by omega
          simp [hn24, hl28]
          refine FN.mono (must_c 121 w1) ?_
          rintro _ w2 ⟨⟨u, rfl⟩, hw2⟩
          subst hw2
          simp [hsub, hshl]
          by_cases hdl : d ≤ r'.length
          · have ht2 := take_t hL1 hdl
            refine FN.mono (ht2) ?_
            rintro _ w3 ⟨hM3, v3, rfl, ho3, hL3⟩
            simp
            have hS3 : SlB w3 1 v3 (r'.take d).length ((r'.take d).map u8) := by
              rw [List.length_take, Nat.min_eq_left hdl]
              exact (sl_of_own ho3).toB
            have hg := get_c hS3 (by rw [List.length_take, Nat.min_eq_left hdl]; exact hdw) (fun x hx => h.ok x (by simp; exact .inr (List.mem_of_mem_take hx)))
            refine FN.mono (hg) ?_
            rintro _ w4 ⟨rfl, hE4⟩
            simp
            obtain ⟨A, hA, -⟩ := ofBe_b (l := r'.take d) (fun x hx => h.ok x (by simp; exact .inr (List.mem_of_mem_take hx))) d (by rw [List.length_take, Nat.min_eq_left hdl]; omega)
            rw [List.take_take, Nat.min_self] at hA
            refine tail _ _ (ofBe (r'.take d)) (r'.drop d) ?_ ?_ ?_ ?_ (by omega) (hL3.more hE4) ((hM1.trans hM3).trans hE4.mod) ?_
            · simp
            · simp
            · simp
            · simp
            · rw [headP_cons, ← hmj, ← hlo, if_neg hl24, if_pos hl28, hkt, ← hd, if_pos hdl]
          · refine FN.mono (take_f hL1 (n := d) (by omega)) ?_
            rintro _ w3 ⟨rfl, hw3⟩
            subst hw3
            simp
            rw [headP_cons, ← hmj, ← hlo, if_neg hl24, if_pos hl28, hkt, ← hd, if_neg hdl]
            exact ⟨hM1, rfl⟩
        · simp [hn24, hl28]
          refine FN.mono (cmust_f 121 w1) ?_
          rintro _ w2 ⟨rfl, hw2⟩
          subst hw2
          simp
          rw [headP_cons, ← hlo, if_neg hl24, if_neg hl28]
          exact ⟨hM1, rfl⟩
    case jn =>
      intro σ W n rest e0 e4 e6 e7 hn0' hL hM hP
      rw [hP]
      refine WC_drawC 18 (.F 0 <| .F 1 <| .F 2 <| .C 3 <| .C 4 <| .F 5 <| .F 6 <| .F 7 <| .F 8 <| .F 9 <| .F 10 <| .F 11 <| .F 12 <| .F 13 <| .F 14 <| .F 15 <| .C 16 <| .F 17 <| .Z) (fun _ => false) rfl (by kernel_rfl) fun W1 hW1 => ?_
      have hWE : Ext W W1 := hW1 ▸ Ext.drew _
      have hL1 := hL.more hWE
      simp [e4, e6, e7]
      refine FN.mono (head_c hmb hn0' W1) ?_
      rintro _ W2 ⟨v2, rfl, ho2, hE2⟩
      simp [e4, e6, e7]
      refine KR_ext hE2 ?_
      have hL2 := hL1.more hE2
      simp
      have hb2 := begins_c (hown.ext hL2.ext) (sl_of_own ho2).toB (by have := h.len; omega)
      refine FN.mono (hb2) ?_
      rintro _ W3 ⟨rfl, hE3⟩
      simp
      refine KR_ext hE3 ?_
      have hL3 := hL2.more hE3
      unfold headQ
      obtain ⟨v3, b3, hS3⟩ := hL3.v
      have hlen3 := fun ty W => hS3.isLen (P := Tryz.prog) (t := 162) (by simp) ty W
      have hlown := fun ty W => hown.isLen (P := Tryz.prog) (t := 162) (by simp) ty W
      have hM3 := (hM.trans hWE.mod).trans ((hE2.trans hE3).mod)
      cases hbg : beg (c :: r') (headB mj n) with
      | false =>
        simp
        refine FN.mono (cmust_f 121 W3) ?_
        rintro _ W4 ⟨rfl, hw4⟩
        subst hw4
        simp
        exact ⟨hM3, rfl⟩
      | true =>
        simp [e0, e4, e6, e7, b3.cell 0 _ rfl, hlen3, hlown]
        refine FN.mono (head_c hmb hn0' W3) ?_
        rintro _ W4 ⟨v4, rfl, ho4, hE4⟩
        have hlen4 := fun ty W => (sl_of_own ho4).isLen (P := Tryz.prog) (t := 31) (by simp) ty W
        have h1 := h.len
        have h2 := hL.len
        have h3 := headB_len mj n
        simp only [List.length_cons] at h1
        have hwq : IntKind.i64.wrap ((r'.length : Int) + 1 - rest.length) = (r'.length : Int) + 1 - rest.length := wrap64 _ (by omega) (by omega)
        simp [e0, e4, e6, e7]
        refine KR_ext hE4 ?_
        have hL4 := hL3.more hE4
        have hM4 := hM3.trans hE4.mod
        by_cases heq : (r'.length : Int) + 1 - rest.length = (headB mj n).length
        · have hwq2 : IntKind.i64.wrap ((headB mj n).length : Int) = (headB mj n).length := wrap64 _ (by omega) (by omega)
          simp [hlen4, heq, hwq2]
          refine FN.mono (must_c 121 W4) ?_
          rintro _ W5 ⟨⟨u5, rfl⟩, hw5⟩
          subst hw5
          simp [e6, e7]
          rw [if_pos heq]
          exact ⟨hM4, rfl, hL4⟩
        · have heq' : ((r'.length : Int) + 1 - rest.length == (headB mj n).length) = false := by simpa using heq
          simp [hlen4, hwq, heq, heq']
          refine FN.mono (cmust_f 121 W4) ?_
          rintro _ W5 ⟨rfl, hw5⟩
          subst hw5
          simp
          rw [if_neg heq]
          exact ⟨hM4, rfl⟩
end Go.Proofs
namespace Go.Proofs
open Pk
set_option maxRecDepth 10000
theorem conv_b {w : World} {v : Value} {b : List Int} (h : SlB w 1 v b.length (b.map u8)) : (convert 31 9 v).run Tryz.prog w = .ok (.string (strOfNums b)) w := by
  obtain ⟨ao, c, rfl, hc, ha⟩ := h.val
  by_cases h0 : b.length = 0
  · have hb : b = [] := List.eq_nil_of_length_eq_zero h0
    subst hb
    rw [run_convert_bytes_string w 31 9 5 _ _ _ (by simp) (by simp) (by simp)]
    cases ao with
    | none => rfl
    | some a =>
      have hl := run_loadCells_list (P := Tryz.prog) w a [] (by simp)
      have h2 := run_bytesToString w a 0 c [] hl
      rw [foldl_push_bytes] at h2
      exact h2
  · obtain ⟨g, o, rfl⟩ := ha (by omega)
    refine run_convert_bytes_arg _ 31 5 (by simp) (by simp) g o b.length c b rfl ?_ 9 (by simp)
    intro i hi
    refine h.at_ i _ ?_
    simp [List.getD, List.getElem?_eq_getElem hi]
/-! ### What is read, plain -/
def listP (p : List Int → Except Int (It × List Int)) : Nat → List Int → Except Int (List It × List Int)
  | 0, bs => .ok ([], bs)
  | n + 1, bs => match p bs with
    | .error c => .error c
    | .ok (x, r) => match listP p n r with
      | .error c => .error c
      | .ok (l, r') => .ok (x :: l, r')
def tailP (tx : ByteArray → Option Bool) (p : List Int → Except Int (It × List Int)) (m n : Int) (rest : List Int) : Except Int (It × List Int) :=
  if m = 0 then .ok (.mk 1 n [] ⟨#[]⟩ [], rest)
  else if m = 2 then (if n ≤ rest.length then .ok (.mk 2 0 (rest.take n.toNat) ⟨#[]⟩ [], rest.drop n.toNat) else .error 121)
  else if m = 3 then (if n ≤ rest.length then (match tx (strOfNums (rest.take n.toNat)) with
      | none => .error (-1)
      | some true => .ok (.mk 3 0 [] (strOfNums (rest.take n.toNat)) [], rest.drop n.toNat)
      | some false => .error 121) else .error 121)
  else if m = 4 then (match listP p n.toNat rest with
      | .error c => .error c
      | .ok (l, r) => .ok (.mk 4 0 [] ⟨#[]⟩ l, r))
  else .error 121
def headedP (tx : ByteArray → Option Bool) (p : List Int → Except Int (It × List Int)) (bs : List Int) : Except Int (It × List Int) :=
  match headP bs with
  | none => .error 121
  | some (m, n, rest) => tailP tx p m n rest
def simpleI (k : Nat) : It := if k = 0 then .mk 5 0 [] ⟨#[]⟩ [] else if k = 1 then .mk 5 1 [] ⟨#[]⟩ [] else .mk 6 0 [] ⟨#[]⟩ []
def itemP (tx : ByteArray → Option Bool) : Nat → List Int → Except Int (It × List Int)
  | 0, _ => .error 120
  | f + 1, bs =>
    if beg bs [244] then .ok (simpleI 0, bs.drop 1)
    else if beg bs [245] then .ok (simpleI 1, bs.drop 1)
    else if beg bs [246] then .ok (simpleI 2, bs.drop 1)
    else headedP tx (itemP tx f) bs
def RiR (w0 w w' : World) (r : Nat) (o : Except Int (It × List Int)) (e : Ending) : Prop := Mod (fun k => k = r) w w' ∧ match o with
  | .error c => e = .panicked (panV c)
  | .ok (t, rest) => (∃ cs, e = .returned (.agg cs.toArray) ∧ ItP (fun k => w.heap.size ≤ k) w' t cs) ∧ Lf w0 w' r rest
theorem ri_fin {w0 w W : World} {r : Nat} {rest : List Int} {t : It} {a0 a1 a2 a3 a4 : Value} (hM : Mod (fun k => k = r) w W) (hr : r < w.heap.size) (hI : ItP (fun k => w.heap.size < k) W t [a0, a1, a2, a3, a4]) (hL : Lf w0 W r rest) :
    RiR w0 w (((((W.setCell ⟨w.heap.size, 0, none⟩ a0).setCell ⟨w.heap.size, 1, none⟩ a1).setCell ⟨w.heap.size, 2, none⟩ a2).setCell ⟨w.heap.size, 3, none⟩ a3).setCell ⟨w.heap.size, 4, none⟩ a4) r (.ok (t, rest)) (.returned (.agg #[a0, a1, a2, a3, a4])) := by
  have m7 := five_mod W w.heap.size a0 a1 a2 a3 a4
  have hle := hL.le
  exact ⟨hM.trans' m7 fun j hj => .inr (by omega), ⟨_, rfl, hI.go m7 fun k _ hk => ⟨by omega, by omega⟩⟩, hL.mod m7 fun j hj => ⟨by omega, by omega⟩⟩
theorem ofBe_nn {l : List Int} (hb : ∀ x ∈ l, 0 ≤ x ∧ x ≤ 255) (hl : l.length ≤ 8) : 0 ≤ ofBe l ∧ ofBe l ≤ 18446744073709551615 := by
  obtain ⟨A, hA, hlt⟩ := ofBe_b hb l.length (Nat.le_refl _)
  rw [List.take_length] at hA
  have : A < 2 ^ 64 := Nat.lt_of_lt_of_le hlt (Nat.pow_le_pow_right (by omega) (by omega))
  omega
theorem headP_b {bs rest : List Int} {m n : Int} (hok : ∀ x ∈ bs, 0 ≤ x ∧ x ≤ 255) (h : headP bs = some (m, n, rest)) : (0 ≤ m ∧ m ≤ 7) ∧ (0 ≤ n ∧ n ≤ 18446744073709551615) ∧ ∃ pre, bs = pre ++ rest ∧ pre ≠ [] := by
  cases bs with
  | nil => cases h
  | cons c r =>
    have hc := hok c (by simp)
    rw [headP_cons] at h
    split at h
    · split at h
      · cases h; exact ⟨by omega, by omega, [c], rfl, by simp⟩
      · cases h
    · split at h
      · split at h
        · split at h
          · rename_i h24 h28 hl hq
            simp only [Option.some.injEq, Prod.mk.injEq] at h
            obtain ⟨rfl, rfl, rfl⟩ := h
            obtain ⟨k, hk, hk3⟩ : ∃ k : Nat, (c % 32 - 24).toNat = k ∧ k ≤ 3 := ⟨_, rfl, by omega⟩
            rw [hk]
            have h2 : 2 ^ k ≤ 8 := Nat.pow_le_pow_right (n := 2) (by omega) hk3
            refine ⟨by omega, ofBe_nn (fun x hx => hok x (by simp; exact .inr (List.mem_of_mem_take hx))) (by rw [List.length_take]; omega), c :: r.take (2 ^ k), by simp, by simp⟩
          · cases h
        · cases h
      · cases h
theorem listP_suf {p : List Int → Except Int (It × List Int)} (hp : ∀ bs t rest, (∀ x ∈ bs, 0 ≤ x ∧ x ≤ 255) → p bs = .ok (t, rest) → ∃ pre, bs = pre ++ rest ∧ pre ≠ []) : ∀ (n : Nat) (bs : List Int) (l : List It) (rest : List Int), (∀ x ∈ bs, 0 ≤ x ∧ x ≤ 255) → listP p n bs = .ok (l, rest) → ∃ pre, bs = pre ++ rest
  | 0, bs, l, rest, _, h => by simp only [listP, Except.ok.injEq, Prod.mk.injEq] at h; obtain ⟨rfl, rfl⟩ := h; exact ⟨[], rfl⟩
  | n + 1, bs, l, rest, hb, h => by
    simp only [listP] at h
    split at h
    · cases h
    · rename_i x r hx
      split at h
      · cases h
      · rename_i l' r' hl
        simp only [Except.ok.injEq, Prod.mk.injEq] at h
        obtain ⟨rfl, rfl⟩ := h
        obtain ⟨pre, rfl, -⟩ := hp _ _ _ hb hx
        obtain ⟨pre2, rfl⟩ := listP_suf hp n r l' r' (fun x hx => hb x (by simp [hx])) hl
        exact ⟨pre ++ pre2, by rw [List.append_assoc]⟩
theorem beg_one {bs : List Int} {c : Int} (h : beg bs [c] = true) : bs = c :: bs.drop 1 := by
  unfold beg at h
  cases bs with
  | nil => simp at h
  | cons a r => simp at h; rw [h]; simp
theorem itemP_lt {tx : ByteArray → Option Bool} : ∀ (f : Nat) (bs : List Int) (t : It) (rest : List Int), (∀ x ∈ bs, 0 ≤ x ∧ x ≤ 255) → itemP tx f bs = .ok (t, rest) → ∃ pre, bs = pre ++ rest ∧ pre ≠ []
  | 0, bs, t, rest, _, h => by simp [itemP] at h
  | f + 1, bs, t, rest, hb, h => by
    have one : ∀ c, beg bs [c] = true → rest = bs.drop 1 → ∃ pre, bs = pre ++ rest ∧ pre ≠ [] := fun c hc hr => ⟨[c], by rw [hr]; exact beg_one hc, by simp⟩
    simp only [itemP] at h
    split at h
    · rename_i hc; cases h; exact one _ hc rfl
    split at h
    · rename_i hc; cases h; exact one _ hc rfl
    split at h
    · rename_i hc; cases h; exact one _ hc rfl
    unfold headedP at h
    split at h
    · cases h
    · rename_i m n r hh
      obtain ⟨-, -, pre, rfl, hpre⟩ := headP_b hb hh
      have fin : (∃ p2, r = p2 ++ rest) → ∃ p, pre ++ r = p ++ rest ∧ p ≠ [] := by
        rintro ⟨p2, rfl⟩
        exact ⟨pre ++ p2, by rw [List.append_assoc], by simp [hpre]⟩
      unfold tailP at h
      split at h
      · cases h; exact fin ⟨[], rfl⟩
      split at h
      · split at h
        · cases h; exact fin ⟨r.take n.toNat, (List.take_append_drop _ _).symm⟩
        · cases h
      split at h
      · split at h
        · split at h
          · cases h
          · cases h; exact fin ⟨r.take n.toNat, (List.take_append_drop _ _).symm⟩
          · cases h
        · cases h
      split at h
      · split at h
        · cases h
        · rename_i l r' hl
          cases h
          exact fin (listP_suf (fun bs t rest hb h => itemP_lt f bs t rest hb h) n.toNat r l rest (fun x hx => hb x (by simp [hx])) hl)
      · cases h
def Txt (tx : ByteArray → Option Bool) (w0 : World) : Prop := ∀ s b, tx s = some b → ∀ W, Ext w0 W → FN Tryz.prog 96 [.string s] W fun e W' => (∃ n, e = .returned (.tuple #[i64 n, .bool b])) ∧ Ext W W'
/-- While a list is read. -/
structure LsI (w0 w w7 w' : World) (r xb : Nat) (rest rest' : List Int) (l : List It) (u : Value) (css : List (List Value)) (p : List Int → Except Int (It × List Int)) (N k : Nat) : Prop where
  lf : Lf w0 w' r rest'
  x : ItBx w' xb 4 0 (.slice none 0 0) ⟨#[]⟩ u
  own : w'.ownsRow w7.heap.size 51 5 u l.length css.flatten
  it : ItPs (fun j => w7.heap.size ≤ j ∧ (slN u = false → j ≠ slB u)) w' l css
  mod : Mod (fun k => k = r) w w'
  res : ItBx w' w.heap.size 0 0 (.slice none 0 0) ⟨#[]⟩ (.slice none 0 0)
  sz : w7.heap.size ≤ w'.heap.size
  len : l.length + rest'.length ≤ rest.length
  eq : listP p N rest = (match listP p k rest' with | .error c => .error c | .ok (l', r') => .ok (l ++ l', r'))
set_option maxHeartbeats 4000000 in
theorem ritem_c {tx : ByteArray → Option Bool} {w0 : World} (hT : Txt tx w0) : ∀ (f : Nat), f ≤ 8 → ∀ {w : World} {r : Nat} {bs : List Int}, Lf w0 w r bs → itemP tx f bs ≠ .error (-1) → FN Tryz.prog 114 [ptr r, i64 (8 - (f : Int))] w fun e w' => RiR w0 w w' r (itemP tx f bs) e
  | 0, _, w, r, bs, h, hne => by
    refine FN_enter Tryz.func114 rfl rfl (by kernel_rfl) ?_
    simp
    have hE : Ext w (w.alloc (.cells #[i64 0, u64 0, .slice none 0 0, .string ⟨#[]⟩, .slice none 0 0] 51)) := (Ext.refl w).alloc _
    refine FN.mono (cmust_f 120 _) ?_
    rintro _ w1 ⟨rfl, hw⟩
    subst hw
    simp
    exact ⟨hE.mod, rfl⟩
  | f + 1, hf, w, r, bs, h, hne => by
    refine FN_enter Tryz.func114 rfl rfl (by kernel_rfl) ?_
    have hin : (8 : Int) - ((f + 1 : Nat) : Int) < 8 := by omega
    obtain ⟨inn, hinn⟩ : ∃ inn : Int, inn = 8 - ((f + 1 : Nat) : Int) := ⟨_, rfl⟩
    rw [← hinn] at hin ⊢
    simp [hin]
    have hE1 : Ext w (w.alloc (.cells #[i64 0, u64 0, .slice none 0 0, .string ⟨#[]⟩, .slice none 0 0] 51)) := (Ext.refl w).alloc _
    have b1 : ItBx (w.alloc (.cells #[i64 0, u64 0, .slice none 0 0, .string ⟨#[]⟩, .slice none 0 0] 51)) w.heap.size 0 0 (.slice none 0 0) ⟨#[]⟩ (.slice none 0 0) := ItBx.new w _ _ _ _ _ 51
    have z1 : (w.alloc (.cells #[i64 0, u64 0, .slice none 0 0, .string ⟨#[]⟩, .slice none 0 0] 51)).heap.size = w.heap.size + 1 := by simp
    generalize (w.alloc (.cells #[i64 0, u64 0, .slice none 0 0, .string ⟨#[]⟩, .slice none 0 0] 51)) = w1 at *
    refine FN.mono (must_c 120 w1) ?_
    rintro _ w2 ⟨⟨u, rfl⟩, hw2⟩
    subst hw2
    have hL2 := h.more hE1
    have hrne : w.heap.size ≠ r := by have := h.lt; omega
    simp
    refine WC_loop (fun m ρ ds w' => ∃ i : Nat, m = 3 - i ∧ i ≤ 3 ∧ ρ 0 = ptr r ∧ ρ 1 = i64 inn ∧ ρ 4 = ptr w.heap.size ∧ ρ 16 = .agg #[.int .u8 244, .int .u8 245, .int .u8 246] ∧ ρ 17 = i64 i ∧ ds = [] ∧ Ext w2 w' ∧ ∀ j : Nat, j < i → beg bs [244 + (j : Int)] = false) 3
      ⟨0, by simp, by simp, by simp, by simp, by simp, by simp, by simp, rfl, Ext.refl _, by omega⟩ ?_
    rintro m ρ ds w3 ⟨i, rfl, hi, e0, e1, e4, e16, e17, rfl, hE3, hno⟩
    have hL3 := hL2.more hE3
    obtain ⟨v3, p3, hS3⟩ := hL3.v
    have b3 := b1.ext hE3
    have hlen3 := fun ty W => hS3.isLen (P := Tryz.prog) (t := 162) (by simp) ty W
    by_cases hlt : i < 3
    · have hone : Sl (w3.alloc (.cells #[u8 (244 + (i : Int))] 5)) 1 (.slice (some ⟨w3.heap.size, 0, none⟩) 1 1) [244 + (i : Int)].length ([244 + (i : Int)].map u8) := Sl.made w3 [u8 (244 + (i : Int))] 5 1 1 rfl
      have hE4 : Ext w3 (w3.alloc (.cells #[u8 (244 + (i : Int))] 5)) := (Ext.refl _).alloc _
      have hbeg := begins_c (hS3.ext (hL3.ext.trans hE4)) hone.toB (by have := h.len; omega)
      have hw1 : IntKind.i64.wrap ((i : Int) + 1) = i + 1 := wrap64 _ (by omega) (by omega)
      have hlt' : (i : Int) < 3 := by omega
      have hidx : ∀ W, (Instr.index 185 (.agg #[.int .u8 244, .int .u8 245, .int .u8 246]) (i64 i)).run Tryz.prog W = .ok (u8 (244 + (i : Int))) W := fun W => by
        rcases (show i = 0 ∨ i = 1 ∨ i = 2 by omega) with rfl | rfl | rfl <;> kernel_rfl
      simp [e0, e16, e17, hlt', hidx, p3.cell 0 _ rfl]
      refine FN.mono (hbeg) ?_
      rintro _ w5 ⟨rfl, hE5⟩
      have hE35 := hE4.trans hE5
      have hL5 := hL3.more hE35
      cases hb : beg bs [244 + (i : Int)] with
      | false =>
        simp [e0, e1, e4, e16, e17, hw1]
        refine ⟨3 - (i + 1), by omega, i + 1, rfl, by omega, by push_cast; rfl, hE3.trans hE35, fun j hj => ?_⟩
        by_cases hji : j = i
        · rw [hji]; exact hb
        · exact hno j (by omega)
      | true =>
        simp [e0]
        have hbl : 1 ≤ bs.length := by
          unfold beg at hb
          simp at hb
          exact hb.1
        have ht := take_t hL5 (k := 1) hbl
        refine FN.mono (ht) ?_
        rintro _ w6 ⟨hM6, v6, rfl, ho6, hL6⟩
        obtain ⟨kk, hkk⟩ : ∃ kk : Int, kk = if i = 2 then 6 else 5 := ⟨_, rfl⟩
        obtain ⟨nn, hnn⟩ : ∃ nn : Int, nn = if i = 1 then 1 else 0 := ⟨_, rfl⟩
        have hsi : simpleI i = .mk kk nn [] ⟨#[]⟩ [] := by
          rw [hkk, hnn]
          rcases (show i = 0 ∨ i = 1 ∨ i = 2 by omega) with rfl | rfl | rfl <;> rfl
        have hix2 : ∀ W, (Instr.index 187 (.agg #[i64 5, u64 0, .slice none 0 0, .string ⟨#[]⟩, .slice none 0 0, i64 5, u64 1, .slice none 0 0, .string ⟨#[]⟩, .slice none 0 0, i64 6, u64 0, .slice none 0 0, .string ⟨#[]⟩, .slice none 0 0]) (i64 i)).run Tryz.prog W = .ok (.agg #[i64 kk, u64 nn, .slice none 0 0, .string ⟨#[]⟩, .slice none 0 0]) W := fun W => by
          rw [hkk, hnn]
          rcases (show i = 0 ∨ i = 1 ∨ i = 2 by omega) with rfl | rfl | rfl <;> kernel_rfl
        have hP : itemP tx (f + 1) bs = .ok (simpleI i, bs.drop 1) := by
          rcases (show i = 0 ∨ i = 1 ∨ i = 2 by omega) with rfl | rfl | rfl
          · simp only [itemP]
            rw [if_pos (by simpa using hb)]
          · simp only [itemP]
            rw [if_neg (by simpa using hno 0 (by omega)), if_pos (by simpa using hb)]
          · simp only [itemP]
            rw [if_neg (by simpa using hno 0 (by omega)), if_neg (by simpa using hno 1 (by omega)), if_pos (by simpa using hb)]
        have b6 := (b3.ext hE35).mod hM6 hrne
        simp [e4, hix2, b6.c0, b6.c1, b6.c2, b6.c3, b6.c4, b6.fz, cell_setCell]
        have m7 := five_mod w6 w.heap.size (i64 kk) (u64 nn) (.slice none 0 0) (.string ⟨#[]⟩) (.slice none 0 0)
        rw [hP, hsi]
        refine ⟨?_, ⟨_, rfl, leaf_it kk nn⟩, hL6.mod m7 fun j hj => ⟨by have := h.ext.size; omega, by omega⟩⟩
        exact ((((hE1.trans hE3).trans hE35).mod.trans hM6).trans' m7 fun j hj => .inr (by omega))
    · obtain rfl : i = 3 := by omega
      have hP : itemP tx (f + 1) bs = headedP tx (itemP tx f) bs := by
        simp only [itemP]
        rw [if_neg (by simpa using hno 0 (by omega)), if_neg (by simpa using hno 1 (by omega)), if_neg (by simpa using hno 2 (by omega))]
      rw [hP] at hne ⊢
      simp [e0, e17]
      have hrh := rhead_c hL3
      refine FN.mono hrh ?_
      rintro e5 w5 ⟨hM5, hp5⟩
      have hM05 : Mod (fun k => k = r) w w5 := (hE1.trans hE3).mod.trans hM5
      unfold headedP at hne ⊢
      cases ho : headP bs with
      | none =>
        rw [ho] at hp5
        obtain rfl : e5 = _ := hp5
        simp
        exact ⟨hM05, rfl⟩
      | some q =>
        obtain ⟨mj, n, rest⟩ := q
        rw [ho] at hp5 hne
        obtain ⟨rfl, hL5⟩ := hp5
        simp only at hne ⊢
        have b5 := b3.mod hM5 hrne
        obtain ⟨hmb, hnb, pre, hpre, -⟩ := headP_b h.ok ho
        have hrl := h.lt
        unfold tailP at hne ⊢
        by_cases g0 : mj = 0
        · subst g0
          simp [e4, b5.c0, b5.c1, b5.c2, b5.c3, b5.c4, b5.fz, cell_setCell]
          exact ri_fin hM05 hrl (leaf_it 1 n) hL5
        have q0 : (mj == 0) = false := by simpa using g0
        rw [if_neg g0] at hne ⊢
        by_cases g2 : mj = 2
        · subst g2
          simp [e0]
          by_cases hnl : n ≤ (rest.length : Int)
          · obtain ⟨k, rfl⟩ : ∃ k : Nat, n = k := ⟨n.toNat, by omega⟩
            have hkl : k ≤ rest.length := by omega
            refine FN.mono (take_t hL5 hkl) ?_
            rintro _ w6 ⟨hM6, v6, rfl, ho6, hL6⟩
            obtain ⟨a6, c6, rfl⟩ := own_val ho6
            have b6 := b5.mod hM6 hrne
            simp [e4, b6.c0, b6.c1, b6.c2, b6.c3, b6.c4, b6.fz, cell_setCell, hkl]
            refine ri_fin (hM05.trans hM6) hrl (itP_mk.2 ⟨_, _, [], rfl, ?_, SlB.nil _ 5 0, fun hb => ?_, fun h => (h rfl).elim, itPs_nil, ?_, by simp⟩) hL6
            · rw [List.length_take, Nat.min_eq_left hkl]; exact (sl_of_own ho6).toB
            · have hz := own_nil ho6 (by
                rcases Nat.eq_zero_or_pos k with hk | hk
                · subst hk; simp at hb
                · exact hk)
              have := own_ge ho6 hz
              have := hM05.size
              have := hE3.size
              have := hM5.size
              omega
            · have := hL5.len; rw [List.length_take]; omega
          · refine FN.mono (take_f hL5 (n := n) (by omega)) ?_
            rintro _ w6 ⟨rfl, hw6⟩
            subst hw6
            simp
            rw [if_neg hnl]
            exact ⟨hM05, rfl⟩
        have q2 : (mj == 2) = false := by simpa using g2
        rw [if_neg g2] at hne ⊢
        by_cases g3 : mj = 3
        · subst g3
          simp [e0]
          by_cases hnl : n ≤ (rest.length : Int)
          · rw [if_pos hnl] at hne ⊢
            obtain ⟨k, rfl⟩ : ∃ k : Nat, n = k := ⟨n.toNat, by omega⟩
            have hkl : k ≤ rest.length := by omega
            simp only [Int.toNat_natCast] at hne ⊢
            refine FN.mono (take_t hL5 hkl) ?_
            rintro _ w6 ⟨hM6, v6, rfl, ho6, hL6⟩
            have b6 := b5.mod hM6 hrne
            have hS6 : SlB w6 1 v6 (rest.take k).length ((rest.take k).map u8) := by rw [List.length_take, Nat.min_eq_left hkl]; exact (sl_of_own ho6).toB
            have hcv := conv_b hS6
            obtain ⟨s, hs⟩ : ∃ s, s = strOfNums (rest.take k) := ⟨_, rfl⟩
            rw [← hs] at hcv hne ⊢
            simp [hcv]
            cases htx : tx s with
            | none => rw [htx] at hne; exact (hne rfl).elim
            | some b =>
              have hru := hT s b htx w6 hL6.ext
              refine FN.mono hru ?_
              rintro _ w7 ⟨⟨nr, rfl⟩, hE7⟩
              have b7 := b6.ext hE7
              have hM07 := (hM05.trans hM6).trans hE7.mod
              cases b with
              | true =>
                simp
                refine FN.mono (must_c 121 w7) ?_
                rintro _ w8 ⟨⟨u8', rfl⟩, hw8⟩
                subst hw8
                simp [e4, b7.c0, b7.c1, b7.c2, b7.c3, b7.c4, b7.fz, cell_setCell]
                exact ri_fin hM07 hrl (itP_mk.2 ⟨_, _, [], rfl, SlB.nil _ 1 0, SlB.nil _ 5 0, fun h => (h rfl).elim, fun h => (h rfl).elim, itPs_nil, by simp, by simp⟩) (hL6.more hE7)
              | false =>
                simp
                refine FN.mono (cmust_f 121 w7) ?_
                rintro _ w8 ⟨rfl, hw8⟩
                subst hw8
                simp
                exact ⟨hM07, rfl⟩
          · refine FN.mono (take_f hL5 (n := n) (by omega)) ?_
            rintro _ w6 ⟨rfl, hw6⟩
            subst hw6
            simp
            rw [if_neg hnl]
            exact ⟨hM05, rfl⟩
        have q3 : (mj == 3) = false := by simpa using g3
        rw [if_neg g3] at hne ⊢
        by_cases g4 : mj = 4
        · subst g4
          rw [if_pos rfl] at hne ⊢
          simp
          refine FN.mono (must_c 121 w5) ?_
          rintro _ w6 ⟨⟨u6, rfl⟩, hw6⟩
          subst hw6
          simp
          have hE7 : Ext w6 (w6.alloc (.cells #[i64 4, u64 0, .slice none 0 0, .string ⟨#[]⟩, .slice none 0 0] 51)) := (Ext.refl _).alloc _
          have x7 : ItBx (w6.alloc (.cells #[i64 4, u64 0, .slice none 0 0, .string ⟨#[]⟩, .slice none 0 0] 51)) w6.heap.size 4 0 (.slice none 0 0) ⟨#[]⟩ (.slice none 0 0) := ItBx.new w6 _ _ _ _ _ 51
          have z7 : (w6.alloc (.cells #[i64 4, u64 0, .slice none 0 0, .string ⟨#[]⟩, .slice none 0 0] 51)).heap.size = w6.heap.size + 1 := by simp
          have hs6 := hM05.size
          obtain ⟨xb, hxb⟩ : ∃ xb, xb = w6.heap.size := ⟨_, rfl⟩
          rw [← hxb] at x7 z7 ⊢
          generalize (w6.alloc (.cells #[i64 4, u64 0, .slice none 0 0, .string ⟨#[]⟩, .slice none 0 0] 51)) = w7 at *
          have hxr : ¬ xb = r := by omega
          have hb6 : w.heap.size < xb := by have := b5.lt; omega
          obtain ⟨N, hN⟩ : ∃ N : Nat, n = N := ⟨n.toNat, by omega⟩
          subst hN
          simp only [Int.toNat_natCast] at hne ⊢
          refine WC_loop (fun m ρ ds w' => ∃ (k : Nat) (rest' : List Int) (l : List It) (u : Value) (css : List (List Value)), m = k ∧ ρ 0 = ptr r ∧ ρ 1 = i64 inn ∧ ρ 4 = ptr w.heap.size ∧ ρ 8 = u64 k ∧ ρ 12 = ptr xb ∧ ds = [] ∧ k ≤ N ∧
            LsI w0 w w7 w' r xb rest rest' l u css (itemP tx f) N k) N ⟨N, rest, [], .slice none 0 0, [], rfl, by simp [e0], by simp [e1], by simp [e4], by simp, by simp, rfl, Nat.le_refl _, ?_⟩ ?_
          · refine ⟨hL5.more hE7, x7, World.ownsRow_nil _ _ _ _, itPs_nil, hM05.trans hE7.mod, b5.ext hE7, Nat.le_refl _, by simp, ?_⟩
            cases listP (itemP tx f) N rest with
            | error c => rfl
            | ok q => rfl
          · rintro m ρ ds w8 ⟨k, rest', l, u, css, rfl, f0, f1, f4, f8, f12, rfl, hkN, hI⟩
            obtain ⟨ua, uc, rfl⟩ := own_val hI.own
            have hx8 := hI.x
            have hr8 := hI.res
            cases m with
            | zero =>
              simp [f4, f8, f12, hx8.c0, hx8.c1, hx8.c2, hx8.c3, hx8.c4, hr8.c0, hr8.c1, hr8.c2, hr8.c3, hr8.c4, hr8.fz, cell_setCell]
              have heq := hI.eq
              simp only [listP, List.append_nil] at heq
              rw [heq]
              refine ri_fin hI.mod hrl ?_ hI.lf
              refine list_it (sl_of_own hI.own).toB (hI.it.go (Mod.refl (fun _ => False) _) fun k _ hk => ⟨by omega, id⟩) (fun hl => ?_) (by have := hI.len; have := hL5.len; omega)
              have := own_ge hI.own (own_nil hI.own (List.length_pos_iff.2 hl))
              omega
            | succ k =>
              simp [f8]
              refine WC_drawZ 7 (.F 0 <| .F 1 <| .F 2 <| .F 3 <| .F 4 <| .C 5 <| .C 6 <| .Z) (fun k => decide (k = r)) (fun k => decide (k = r)) (fun _ _ _ => True) (fun ch w' => Mod (fun k => k = r) w w' ∧ ∃ c, listP (itemP tx f) N rest = .error c ∧ ch = panV c) rfl (by kernel_rfl) (fun _ h => h) (fun _ _ _ _ _ _ => trivial) ?_ fun W hW => ?_
              · rintro ch ρ' w' ⟨h1, c, h2, rfl⟩
                simp
                rw [h2]
                exact ⟨h1, rfl⟩
              have hWE : Ext w8 W := hW ▸ Ext.drew _
              have xW := hx8.ext hWE
              have hLW := hI.lf.more hWE
              have hin1 : IntKind.i64.wrap (inn + 1) = 8 - (f : Int) := by rw [wrap64 _ (by omega) (by omega)]; omega
              simp [f0, f1, f12, hxr, xW.c4, hin1]
              have hnp : itemP tx f rest' ≠ .error (-1) := fun e => by
                have heq := hI.eq
                simp only [listP, e] at heq
                rw [heq] at hne
                exact hne rfl
              have hih := ritem_c hT f (by omega) hLW hnp
              refine FN.mono hih ?_
              rintro e9 w9 ⟨hM9, hp9⟩
              cases hq : itemP tx f rest' with
              | error c =>
                rw [hq] at hp9
                obtain rfl : e9 = _ := hp9
                simp
                have heq := hI.eq
                simp only [listP, hq] at heq
                exact ⟨(hI.mod.trans hWE.mod).trans hM9, heq⟩
              | ok q =>
                obtain ⟨t, rest2⟩ := q
                rw [hq] at hp9
                obtain ⟨⟨cs, rfl, hit⟩, hL9⟩ := hp9
                obtain ⟨va, vm, vc, va', vm', vc', hcs⟩ := itC_form hit.any
                have hc1 : ∀ u ∈ cs, u.oneCell' = true := by rw [hcs]; simp [Value.oneCell']
                have hE10 : Ext w9 (w9.alloc (.cells cs.toArray 51)) := (Ext.refl _).alloc _
                have h1 : Sl (w9.alloc (.cells cs.toArray 51)) 5 (.slice (some ⟨w9.heap.size, 0, none⟩) 1 1) 1 cs := Sl.made w9 cs 51 5 1 (by rw [hcs]; rfl)
                have hM89 : Mod (fun k => k = r) w8 w9 := hWE.mod.trans hM9
                have ho10 := own_ext (own_keep hI.own fun hn hl => hM89.blk _ hl (by have := own_ge hI.own hn; have := hI.sz; omega)) hE10
                have s8 := hI.sz
                have s9 := hM89.size
                have s10 := hE10.size
                have hlen := hI.len
                have hl65 := hL5.len
                obtain ⟨v', w11, hr, ho11, hM11, hnew⟩ := append_own (P := Tryz.prog) (t := 48) (ty := 48) (e := 51) (s := 5) (by simp) (by simp) (by kernel_rfl) ho10 h1 hc1 (by omega) (by omega)
                obtain ⟨na, nc, rfl⟩ := own_val ho11
                rw [hcs] at hr hE10 hM11
                rw [hcs]
                simp [f0, f1]
                refine KR_mk (hM9.agr fun i hi => by simpa using hi) ?_
                simp
                refine KR_ext hE10 ?_
                have hul : slN (.slice ua l.length uc) = false → w7.heap.size ≤ slB (.slice ua l.length uc) ∧ slB (.slice ua l.length uc) < w8.heap.size := fun hn => by
                  obtain ⟨c, hc⟩ := own_obj hI.own hn
                  exact ⟨own_ge hI.own hn, (Array.getElem?_eq_some_iff.1 hc).1⟩
                have hM811 : Mod (fun j => j = r ∨ (slN (.slice ua l.length uc) = false ∧ j = slB (.slice ua l.length uc))) w8 w11 := ((hM89.weaken fun _ h => .inl h).trans hE10.mod).trans (hM11.weaken fun _ h => .inr h)
                have hb8 := hx8.lt
                have x11 := hx8.mod hM811 (fun h => by
                  rcases h with h | ⟨h, h'⟩
                  · exact hxr h
                  · have := (hul h).1; omega)
                have hM12 : Mod (fun j => j = xb) w11 (w11.setCell ⟨xb, 4, none⟩ (.slice na (l.length + 1) nc)) := (Mod.refl _ _).setC _ _
                have x12 : ItBx (w11.setCell ⟨xb, 4, none⟩ (.slice na (l.length + 1) nc)) xb 4 0 (.slice none 0 0) ⟨#[]⟩ (.slice na (l.length + 1) nc) :=
                  ⟨by simp [x11.c0, cell_setCell], by simp [x11.c1, cell_setCell], by simp [x11.c2, cell_setCell], by simp [x11.c3, cell_setCell], by simp [x11.c4, cell_setCell], fun j => by simp [x11.fz j]⟩
                have hkw : IntKind.u64.wrap (k : Int) = k := by simp [IntKind.wrap, IntKind.signed, IntKind.bits]; omega
                simp [f0, f1, f4, f8, f12, hr, x11.c4, x11.fz, hkw]
                have hpre := itemP_lt (tx := tx) f rest' t rest2 hI.lf.ok hq
                obtain ⟨pre, hpre1, hpre2⟩ := hpre
                have hplen : rest2.length + 1 ≤ rest'.length := by
                  rw [hpre1, List.length_append]
                  have := List.length_pos_iff.2 hpre2
                  omega
                have hM812 : Mod (fun j => j = r ∨ (slN (.slice ua l.length uc) = false ∧ j = slB (.slice ua l.length uc)) ∨ j = xb) w8 (w11.setCell ⟨xb, 4, none⟩ (.slice na (l.length + 1) nc)) := (hM811.weaken fun j h => by
                  rcases h with h | h
                  · exact .inl h
                  · exact .inr (.inl h)).trans (hM12.weaken fun j h => .inr (.inr h))
                have hsz12 := hM812.size
                have hrlt := h.lt
                have hws := hI.mod.size
                refine ⟨k, by omega, rfl, by omega, rest2, l ++ [t], _, css ++ [cs], ?_, x12, ?_, ?_, ?_, ?_, by omega, ?_, ?_⟩
                · refine ((hL9.more hE10).mod hM11 fun j hj => ⟨?_, ?_⟩).mod hM12 fun j hj => ⟨?_, ?_⟩
                  · have := (hul hj.1).1; have := h.le; omega
                  · have := (hul hj.1).1; omega
                  · have := h.le; omega
                  · omega
                · have := own_keep ho11 (w' := w11.setCell ⟨xb, 4, none⟩ (.slice na (l.length + 1) nc)) fun hn hl => hM12.blk _ hl (by have := own_ge ho11 hn; omega)
                  simpa using this
                · have hW8 := hWE.size
                  have hit11 := (ItP.ext hit hE10).go (Pd' := fun j => W.heap.size ≤ j ∧ j < w9.heap.size + 1) hM11 (fun j hlt hp => ⟨⟨hp, by simpa using hlt⟩, fun hh => by have := (hul hh.1).2; omega⟩)
                  have hit12 := hit11.go (Pd' := fun j => w7.heap.size ≤ j ∧ (slN (.slice na (l.length + 1) nc) = false → j ≠ slB (.slice na (l.length + 1) nc))) hM12 (fun j hlt hp => ⟨⟨by omega, fun hn e => by
                    rcases hnew hn with ⟨h1, h2⟩ | h2
                    · have := (hul h1).2; omega
                    · simp at h2; omega⟩, by omega⟩)
                  have hold12 := hI.it.go (Pd' := fun j => w7.heap.size ≤ j ∧ (slN (.slice na (l.length + 1) nc) = false → j ≠ slB (.slice na (l.length + 1) nc))) hM812 (fun j hj hp => ⟨⟨hp.1, fun hn e => by
                    rcases hnew hn with ⟨h1, h2⟩ | h2
                    · exact hp.2 h1 (by omega)
                    · omega⟩, fun hh => by
                    rcases hh with h | ⟨h, h'⟩ | h
                    · omega
                    · exact hp.2 h h'
                    · omega⟩)
                  exact hold12.snoc hit12
                · exact hI.mod.trans' hM812 fun j hj => by
                    rcases hj with h | ⟨h, h'⟩ | h
                    · exact .inl h
                    · have := (hul h).1; exact .inr (by omega)
                    · exact .inr (by omega)
                · refine hr8.mod hM812 fun hj => ?_
                  rcases hj with h | ⟨h, h'⟩ | h
                  · exact hrne h
                  · have := (hul h).1; omega
                  · omega
                · simp; omega
                · have heq := hI.eq
                  simp only [listP, hq] at heq
                  rw [heq]
                  cases listP (itemP tx f) k rest2 with
                  | error c => rfl
                  | ok q => simp
        · have q4 : (mj == 4) = false := by simpa using g4
          rw [if_neg g4]
          simp [q0, q2, q3, q4]
          refine FN.mono (cmust_f 121 w5) ?_
          rintro _ w6 ⟨rfl, hw6⟩
          subst hw6
          simp
          exact ⟨hM05, rfl⟩
end Go.Proofs
