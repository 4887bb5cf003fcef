/-
  Contracts of the functions that the law reaches, step by step.
-/
import Derived.Test.YthamfghcfjhifaaGreatDoorAmO
import Derived.RecoverIn
namespace Go.Proofs
open Pk
set_option maxRecDepth 10000
/-! ### Times -/
theorem ccheckF_c (x : Int) (w : World) : FN Tryz.prog 79 [u64 x] w fun e w' => e = .returned (.bool (decide (x ≤ 4611686018427387903))) ∧ w' = w := by
  refine FN_enter Tryz.func79 rfl rfl (by kernel_rfl) ?_
  simp
theorem callF_c (x : Int) {b : Nat} {w : World} (hb : Var w b (.func (.func 79) #[] #[])) : FN Tryz.prog 112 [u64 x, ptr b] w fun e w' => e = .returned (.bool (!decide (x ≤ 4611686018427387903))) ∧ w' = w := by
  refine FN_enter Tryz.func112 rfl rfl (by kernel_rfl) ?_
  simp [hb.cell]
  refine FN.mono (ccheckF_c x w) ?_
  rintro _ w1 ⟨rfl, h1⟩
  subst h1
  simp
theorem indexF_c {w : World} {b : Nat} {v : Value} {l : List Int} (hb : Var w b (.func (.func 79) #[] #[])) (h : Sl w 1 v l.length (l.map u64)) (hl : l.length ≤ 1000) :
    FN Tryz.prog 143 [v, .func (.func 112) #[] #[ptr b]] w fun e w' => (∃ i : Int, e = .returned (i64 i) ∧ decide (0 ≤ i) = !l.all fun x => decide (x ≤ 4611686018427387903)) ∧ w' = w := by
  refine FN_enter Tryz.func143 rfl rfl (by kernel_rfl) ?_
  have hlen := fun ty W => h.isLen (P := Tryz.prog) (t := 121) (by simp) ty W
  simp [hlen]
  refine WC_loop (fun k ρ ds w' => ∃ i : Nat, k = l.length - i ∧ i ≤ l.length ∧ ρ 0 = v ∧ ρ 1 = .func (.func 112) #[] #[ptr b] ∧ ρ 7 = i64 l.length ∧ ρ 8 = i64 i ∧ ds = [] ∧ w' = w ∧ ∀ j (hj : j < l.length), j < i → l[j] ≤ 4611686018427387903) l.length ⟨0, by simp, by simp, by simp, by simp, by simp, by simp, rfl, rfl, fun j _ h => by omega⟩ ?_
  rintro k ρ ds w1 ⟨i, rfl, hi, e0, e1, e7, e8, rfl, rfl, hno⟩
  by_cases hlt : i < l.length
  · have ix := fun W => h.index (P := Tryz.prog) (t := 121) (by simp) .i64 i (by omega) (by omega) W
    have d := h.at_ i (u64 l[i]) (by simp [hlt])
    simp [e0, e1, e7, e8, hlt, ix, d]
    refine FN.mono (callF_c l[i] hb) ?_
    rintro _ w2 ⟨rfl, h2⟩
    subst h2
    by_cases hx : l[i] ≤ 4611686018427387903
    · simp [hx, e0, e1, e7, e8]
      refine ⟨l.length - (i + 1), by omega, i + 1, rfl, by omega, by rw [wrap64 _ (by omega) (by omega)]; rfl, fun j hj hji => ?_⟩
      rcases Nat.lt_succ_iff_lt_or_eq.1 hji with h1 | rfl
      · exact hno j hj h1
      · exact hx
    · simp [hx]
      exact ⟨l[i], by simp, by omega⟩
  · have : i = l.length := by omega
    subst this
    simp [e7, e8]
    intro x hx
    obtain ⟨j, hj, rfl⟩ := List.getElem_of_mem hx
    exact hno j hj hj
/-- Are numbers times? -/
def timesOk (l : List Int) : Bool := l.all fun x => decide (x ≤ 4611686018427387903)
theorem ccheck_c {w : World} {v : Value} {l : List Int} (h : Sl w 1 v l.length (l.map u64)) (hl : l.length ≤ 1000) : FN Tryz.prog 30 [v] w fun e w' => e = .returned (i64 (if timesOk l then 0 else 2)) ∧ Ext w w' := by
  refine FN_enter Tryz.func30 rfl rfl (by kernel_rfl) ?_
  simp
  have hall : FN Tryz.prog 78 [.func (.func 79) #[] #[], v] w fun e w' => e = .returned (.bool (timesOk l)) ∧ Ext w w' := by
    refine FN_enter Tryz.func78 rfl rfl (by kernel_rfl) ?_
    simp
    have hE1 := (Ext.refl w).alloc (.cells #[.func (.func 79) #[] #[]] 123)
    have v1 : Var (w.alloc (.cells #[.func (.func 79) #[] #[]] 123)) w.heap.size (.func (.func 79) #[] #[]) := Var.new w _ _
    generalize (w.alloc (.cells #[.func (.func 79) #[] #[]] 123)) = w1 at *
    refine FN_enter Tryz.func111 rfl rfl (by kernel_rfl) ?_
    simp
    refine FN.mono (indexF_c v1 (h.ext hE1) hl) ?_
    rintro _ w2 ⟨⟨i, rfl, hi⟩, h2⟩
    subst h2
    simp [hi, timesOk]
    exact hE1
  refine FN.mono (hall) ?_
  rintro _ w1 ⟨rfl, hE1⟩
  cases ht : timesOk l with
  | true => simp; exact hE1
  | false => simp; exact hE1
end Go.Proofs
namespace Go.Proofs
open Pk
set_option maxRecDepth 10000
/-- Behind a function that has not given up. -/
theorem caught_idle (a b : Value) (w : World) : CallsDIn (FR none) 0 Tryz.prog 34 #[a, b] .returning w fun e u' w' => (∃ v, e = .returned v) ∧ u' = .returning ∧ w' = w := by
  refine callsDIn_of_wpSIn Tryz.func34 rfl trivial fun c₀ cs hu => ?_
  apply wpSIn_seq
  apply wpSIn_region
  simp [wpOpsSIn, go_sem, recoverD, hu, Exit.thenS]
  apply wpSIn_seq
  apply wpSIn_region
  simp [wpOpsSIn, go_sem, Act.eval, Array.replicate, Exit.thenS]
  refine wpSIn_cond (t := false) (by simp [Act.eval]) ?_
  simp only [Bool.false_eq_true, if_false]
  refine wpSIn_of_wpIn rfl (wpIn_skip ?_)
  cases c₀
  simp_all [bodyPostS, results]
theorem LV_caught {rs : Array ResultVar} {R : Ending → World → Prop} {ρ : Env} {ds : List Deferred} {w : World} {a b : Value} (h : LV Tryz.prog rs R ρ ds .returning w) :
    LV Tryz.prog rs R ρ ({ target := .fn (.func 34) #[], args := #[a, b] } :: ds) .returning w := by
  refine ⟨by simp, .inr ⟨.func 34, #[], 34, #[a, b], rfl, ?_, ?_⟩⟩
  · have := callFunc_enter Tryz.func34 rfl rfl #[a, b] w
    simp [invoke]
  · refine (caught_idle a b w).mono ?_
    rintro e u' w' ⟨⟨v, rfl⟩, rfl, rfl⟩
    exact h
/-- What a kind's lay tells. -/
def Lays (fl : Nat) (r : Rec) (n : Nat) (cs : List Value) : Prop := ∀ w, FN Tryz.prog fl [recV r] w fun e w' => ∃ v, e = .returned v ∧ Sl w' 5 v n cs ∧ Ext w w'
set_option maxHeartbeats 1000000 in
theorem laid_c {fl fr ff n : Nat} {s : ByteArray} {r : Rec} {cs : List Value} (hl : Lays fl r n cs) (h1 : ∀ u ∈ cs, u.oneCell' = true) (hn : n ≤ 1000) (hk : 0 ≤ r.kind ∧ r.kind ≤ 18446744073709551615) (w : World) :
    FN Tryz.prog 28 [agE [.string s, fnV fl, fnV fr, fnV ff], recV r] w fun e w' => ∃ v, e = .returned (.agg #[i64 4, u64 0, .slice none 0 0, .string ⟨#[]⟩, v]) ∧ Sl w' 5 v (n + 1) (leafC 1 r.kind ++ cs) ∧ Ext w w' ∧ w.heap.size ≤ slB v := by
  refine FN_enter Tryz.func28 rfl rfl (by kernel_rfl) ?_
  simp
  have hE1 : Ext w (((w.alloc (.cells #[.string s, fnV fl, fnV fr, fnV ff] 71)).alloc (.cells (recC r).toArray 30)).alloc (.cells #[i64 0, u64 0, .slice none 0 0, .string ⟨#[]⟩, .slice none 0 0] 51)) := (((Ext.refl w).alloc _).alloc _).alloc _
  have o2 : Blk (((w.alloc (.cells #[.string s, fnV fl, fnV fr, fnV ff] 71)).alloc (.cells (recC r).toArray 30)).alloc (.cells #[i64 0, u64 0, .slice none 0 0, .string ⟨#[]⟩, .slice none 0 0] 51)) w.heap.size [.string s, fnV fl, fnV fr, fnV ff] := (Blk.new w _ _).ext (((Ext.refl _).alloc _).alloc _)
  have o3 : Blk (((w.alloc (.cells #[.string s, fnV fl, fnV fr, fnV ff] 71)).alloc (.cells (recC r).toArray 30)).alloc (.cells #[i64 0, u64 0, .slice none 0 0, .string ⟨#[]⟩, .slice none 0 0] 51)) (w.heap.size + 1) (recC r) := by
    have := (Blk.new (w.alloc (.cells #[.string s, fnV fl, fnV fr, fnV ff] 71)) (recC r) 30).ext ((Ext.refl _).alloc (.cells #[i64 0, u64 0, .slice none 0 0, .string ⟨#[]⟩, .slice none 0 0] 51))
    simpa using this
  have o4 : Blk (((w.alloc (.cells #[.string s, fnV fl, fnV fr, fnV ff] 71)).alloc (.cells (recC r).toArray 30)).alloc (.cells #[i64 0, u64 0, .slice none 0 0, .string ⟨#[]⟩, .slice none 0 0] 51)) (w.heap.size + 1 + 1) [i64 0, u64 0, .slice none 0 0, .string ⟨#[]⟩, .slice none 0 0] := by
    have := Blk.new ((w.alloc (.cells #[.string s, fnV fl, fnV fr, fnV ff] 71)).alloc (.cells (recC r).toArray 30)) [i64 0, u64 0, .slice none 0 0, .string ⟨#[]⟩, .slice none 0 0] 51
    simpa using this
  have z1 : (((w.alloc (.cells #[.string s, fnV fl, fnV fr, fnV ff] 71)).alloc (.cells (recC r).toArray 30)).alloc (.cells #[i64 0, u64 0, .slice none 0 0, .string ⟨#[]⟩, .slice none 0 0] 51)).heap.size = w.heap.size + 1 + 1 + 1 := by simp
  generalize (((w.alloc (.cells #[.string s, fnV fl, fnV fr, fnV ff] 71)).alloc (.cells (recC r).toArray 30)).alloc (.cells #[i64 0, u64 0, .slice none 0 0, .string ⟨#[]⟩, .slice none 0 0] 51)) = w1 at *
  refine WC_drawL 8 (.F 0 <| .F 1 <| .F 4 <| .F 5 <| .F 6 <| .C 2 <| .D 3 <| .L 7 <| .W 3 <| .Z) (fun _ => false) (fun _ => false) (fun _ u W => W.ownsRow w1.heap.size 51 5 u 1 (leafC 1 r.kind)) rfl (by kernel_rfl) (fun _ h => h) (fun _ _ _ _ h1 h2 => own_ext h1 (agr_ext h2)) fun W hW => ?_
  have hWE : Ext w1 W := hW ▸ Ext.drew w1
  have p2 := o2.ext hWE
  have p3 := o3.ext hWE
  have p4 := o4.ext hWE
  simp [p2.cell 1 _ rfl, p3.cell 0 _ rfl, p3.cell 1 _ rfl, p3.cell 2 _ rfl, p3.cell 3 _ rfl, p3.cell 4 _ rfl, p3.cell 5 _ rfl, p3.cell 6 _ rfl, p3.cell 7 _ rfl, p3.cell 8 _ rfl, p3.cell 9 _ rfl, p3.cell 10 _ rfl, p3.cell 11 _ rfl, p3.cell 12 _ rfl, p3.cell 13 _ rfl, p3.cell 14 _ rfl]
  refine FN.mono (numk_c r.kind W hk) ?_
  rintro _ W2 ⟨rfl, hE2⟩
  simp
  refine KR_ext hE2 ?_
  simp
  refine RL_float (fun W' h' => ?_) ?_
  · simp
    have hs := (hWE.trans (hE2.trans (agr_ext h'))).size
    exact ⟨(Ext.refl _).alloc _, own_made W' (leafC 1 r.kind) 51 5 1 rfl (by omega) w1.heap.size hs⟩
  simp
  refine RL_loose fun W3 h3 => ?_
  simp
  refine FN.mono (hl W3) ?_
  rintro _ W4 ⟨vl, rfl, hvl, hE4⟩
  simp
  refine KR_ext hE4 ?_
  simp
  refine RL_wait fun v5 W5 h5 ho5 => ?_
  have hsz := (hWE.trans (hE2.trans (h3.trans (hE4.trans h5)))).size
  obtain ⟨v6, w6, hr6, ho6, hM6, -⟩ := append_own (P := Tryz.prog) (t := 48) (ty := 48) (e := 51) (s := 5) (by simp) (by simp) (by kernel_rfl) ho5 (hvl.ext h5) h1 (by omega) (by omega)
  rw [Nat.add_comm 1 n] at ho6
  obtain ⟨a6, c6, hv6⟩ := own_val ho6
  have hge := fun hn => own_ge ho5 hn
  subst hv6
  simp [hr6]
  refine FN.mono (list_c a6 (n + 1) c6 w6) ?_
  rintro _ w7 ⟨rfl, hE7⟩
  have hE15 := hWE.trans (hE2.trans (h3.trans (hE4.trans h5)))
  have p7 := ((o4.ext hE15).mod hM6 (fun hk => by have := hge hk.1; omega)).ext hE7
  simp [p7.cell 0 _ rfl, p7.cell 1 _ rfl, p7.cell 2 _ rfl, p7.cell 3 _ rfl, p7.cell 4 _ rfl, p7.thaw, cell_setCell]
  have hM8 : Mod (fun k => k = w.heap.size + 1 + 1) w7 (((((w7.setCell ⟨w.heap.size + 1 + 1, 0, none⟩ (i64 4)).setCell ⟨w.heap.size + 1 + 1, 1, none⟩ (u64 0)).setCell ⟨w.heap.size + 1 + 1, 2, none⟩ (.slice none 0 0)).setCell ⟨w.heap.size + 1 + 1, 3, none⟩ (.string ⟨#[]⟩)).setCell ⟨w.heap.size + 1 + 1, 4, none⟩ (.slice a6 (n + 1) c6)) :=
    (((((Mod.refl _ w7).setC 0 _).setC 1 _).setC 2 _).setC 3 _).setC 4 _
  have hg6 := own_ge ho6 (own_nil ho6 (by omega))
  refine ⟨((sl_of_own ho6).ext hE7).mod hM8 (by omega), ?_, by omega⟩
  exact ((((((hE1.trans hE15).mod (S := fun k => w.heap.size ≤ k)).trans (hM6.weaken fun k hk => by have := hge hk.1; omega)).trans (hE7.mod (S := fun k => w.heap.size ≤ k))).trans (hM8.weaken fun k hk => by omega))).ext fun _ h => h
end Go.Proofs
namespace Go.Proofs
open Pk
set_option maxRecDepth 10000
/-- What a kind's read does. -/
def Reads (fr : Nat) (n : Nat) (cs : List Value) (r0 r1 : Rec) : Prop := ∀ (w : World) (b rb : Nat) (v : Value), Blk w b [v] → Sl w 5 v n cs → slB v ≠ b → slB v ≠ rb → b ≠ rb → Blk w rb (recC r0) →
  FN Tryz.prog fr [ptr b, ptr rb] w fun e w' => (∃ u, e = .returned u) ∧ ∃ v', Blk w' b [v'] ∧ Sl w' 5 v' 0 [] ∧ Blk w' rb (recC r1) ∧ Mod (fun j => j = b ∨ j = rb) w w'
/-- What a kind's fine tells. -/
def Fines (ff : Nat) (r : Rec) (b : Bool) : Prop := ∀ w, FN Tryz.prog ff [recV r] w fun e w' => e = .returned (.bool b) ∧ Ext w w'
theorem kd_look {r : Nat} {w : World} (hm : MapAt (Value.int .i64) agE w r kdL) {k : Int} {kd : List Value} (hk : mget kdL k = some kd) (W : World) (hW : Ext w W) :
    (Instr.lookup 72 (.map (some r)) (i64 k) true).run Tryz.prog W = .ok (.tuple #[agE kd, .bool true]) W := by
  have := (hm.ext hW).lookup (P := Tryz.prog) krk tkd (zkd W) k true
  rw [hk] at this
  simpa using this
set_option maxHeartbeats 2000000 in
theorem read_t {fl fr ff n : Nat} {s : ByteArray} {k : Int} {cs : List Value} {r1 : Rec} {w : World} {v : Value} {x : Int} {a2 : Option Addr} {l2 c2 : Nat} {s3 : ByteArray} (hv : Sl w 5 v (n + 1) (leafC 1 k ++ cs)) (hk : mget kdL k = some [.string s, fnV fl, fnV fr, fnV ff]) (hk0 : 0 ≤ k ∧ k ≤ 5)
    (hread : Reads fr n cs { rec0 with kind := k } r1) (hfine : Fines ff r1 true) :
    FN Tryz.prog 38 [.agg #[i64 4, u64 x, .slice a2 l2 c2, .string s3, v]] w fun e w' => e = .returned (recV r1) ∧ Ext w w' := by
  refine FN_enter Tryz.func38 rfl rfl (by kernel_rfl) ?_
  obtain ⟨va, vc, hvv⟩ := hv.isSlice
  subst hvv
  simp
  have hE1 : Ext w ((w.alloc (.cells #[i64 4, u64 x, .slice a2 l2 c2, .string s3, .slice va (n + 1) vc] 51)).alloc (.cells #[i64 0, u32 0, u32 0, u64 0, u32 0, i64 0, i64 0, u64 0, u64 0, u32 0, u32 0, .bool false, u64 0, u64 0, u8 0] 30)) := ((Ext.refl w).alloc _).alloc _
  have o1 : Blk ((w.alloc (.cells #[i64 4, u64 x, .slice a2 l2 c2, .string s3, .slice va (n + 1) vc] 51)).alloc (.cells #[i64 0, u32 0, u32 0, u64 0, u32 0, i64 0, i64 0, u64 0, u64 0, u32 0, u32 0, .bool false, u64 0, u64 0, u8 0] 30)) w.heap.size [i64 4, u64 x, .slice a2 l2 c2, .string s3, .slice va (n + 1) vc] := (Blk.new w _ _).ext ((Ext.refl _).alloc _)
  have o2 : Blk ((w.alloc (.cells #[i64 4, u64 x, .slice a2 l2 c2, .string s3, .slice va (n + 1) vc] 51)).alloc (.cells #[i64 0, u32 0, u32 0, u64 0, u32 0, i64 0, i64 0, u64 0, u64 0, u32 0, u32 0, .bool false, u64 0, u64 0, u8 0] 30)) (w.heap.size + 1) [i64 0, u32 0, u32 0, u64 0, u32 0, i64 0, i64 0, u64 0, u64 0, u32 0, u32 0, .bool false, u64 0, u64 0, u8 0] := by
    have := Blk.new (w.alloc (.cells #[i64 4, u64 x, .slice a2 l2 c2, .string s3, .slice va (n + 1) vc] 51)) [i64 0, u32 0, u32 0, u64 0, u32 0, i64 0, i64 0, u64 0, u64 0, u32 0, u32 0, .bool false, u64 0, u64 0, u8 0] 30
    simpa using this
  have z1 : ((w.alloc (.cells #[i64 4, u64 x, .slice a2 l2 c2, .string s3, .slice va (n + 1) vc] 51)).alloc (.cells #[i64 0, u32 0, u32 0, u64 0, u32 0, i64 0, i64 0, u64 0, u64 0, u32 0, u32 0, .bool false, u64 0, u64 0, u8 0] 30)).heap.size = w.heap.size + 1 + 1 := by simp
  generalize ((w.alloc (.cells #[i64 4, u64 x, .slice a2 l2 c2, .string s3, .slice va (n + 1) vc] 51)).alloc (.cells #[i64 0, u32 0, u32 0, u64 0, u32 0, i64 0, i64 0, u64 0, u64 0, u32 0, u32 0, .bool false, u64 0, u64 0, u8 0] 30)) = w1 at *
  have hvlt := hv.lt (by simp)
  refine FN.mono (must_t 180 w1) ?_
  rintro _ w2 ⟨⟨u, rfl⟩, h2⟩
  subst h2
  simp [o1.cell 4 _ rfl]
  have hE3 : Ext w2 (w2.alloc (.cells #[.slice va (n + 1) vc] 129)) := (Ext.refl _).alloc _
  have o3 : Blk (w2.alloc (.cells #[.slice va (n + 1) vc] 129)) w2.heap.size [.slice va (n + 1) vc] := Blk.new w2 _ _
  obtain ⟨b, hb⟩ : ∃ b, b = w2.heap.size := ⟨_, rfl⟩
  obtain ⟨rb, hrb⟩ : ∃ rb, rb = w.heap.size + 1 := ⟨_, rfl⟩
  rw [← hb] at o3 ⊢
  rw [← hrb] at o2 ⊢
  have p2 := o2.ext hE3
  generalize (w2.alloc (.cells #[.slice va (n + 1) vc] 129)) = w3 at *
  refine FN.mono (upToi64_t o3 (hv.ext (hE1.trans hE3)) (by omega) ⟨_, _, _, rfl⟩ ⟨_, rfl⟩ ⟨_, _, _, rfl⟩ hk0.2 (wrap64 _ (by omega) (by omega))) ?_
  rintro _ w4 ⟨rfl, v4, q3, hs4, hsb4, hM4⟩
  have q2 := p2.mod hM4 (by omega)
  simp [q2.cell 0 _ rfl, q2.thaw]
  have q2' := q2.set 0 (i64 k)
  simp only [List.set_cons_zero] at q2'
  have hM5 : Mod (fun j => j = rb) w4 (w4.setCell ⟨rb, 0, none⟩ (i64 k)) := (Mod.refl _ _).setC _ _
  have q3' := q3.mod hM5 (by omega)
  have hs5 := hs4.mod hM5 (by rw [hsb4]; omega)
  have hsz3 := hE3.size
  have hsz4 := hM4.size
  have hsz5 := hM5.size
  have hEw5 : Ext w (w4.setCell ⟨rb, 0, none⟩ (i64 k)) := ((((hE1.trans hE3).mod (S := fun j => w.heap.size ≤ j)).trans (hM4.weaken fun j hj => by omega)).trans (hM5.weaken fun j hj => by omega)).ext fun _ h => h
  generalize (w4.setCell ⟨rb, 0, none⟩ (i64 k)) = w5 at *
  refine WC_drawL 9 (.F 1 <| .F 2 <| .D 7 <| .L 0 <| .L 3 <| .F 4 <| .F 5 <| .F 6 <| .W 7 <| .S 8 <| .Z) (fun _ => false) (fun _ => false) (fun _ u W => ∃ j, u = ptr j ∧ w5.heap.size ≤ j ∧ Blk W j [.string ⟨#[]⟩, .nilFunc, .nilFunc, .nilFunc]) rfl (by kernel_rfl) (fun _ h => h)
    (fun _ _ _ _ ⟨j, h1, h2, h3⟩ hA => ⟨j, h1, h2, h3.ext (agr_ext hA)⟩) fun W hW => ?_
  have hWE : Ext w5 W := hW ▸ Ext.drew w5
  have r2 := q2'.ext hWE
  simp [r2.cell 0 _ rfl]
  refine RL_float (fun W' h' => ?_) ?_
  · simp
    have hs := (hWE.trans (agr_ext h')).size
    exact ⟨(Ext.refl _).alloc _, hs, Blk.new W' [.string ⟨#[]⟩, .nilFunc, .nilFunc, .nilFunc] 71⟩
  simp
  refine RL_loose fun W3 h3 => ?_
  simp
  refine FN.mono (kinds_c W3) ?_
  rintro _ W4 ⟨mr, rfl, hm, hE4⟩
  simp
  refine KR_ext hE4 ?_
  simp
  refine RL_loose fun W5 h5 => ?_
  simp [kd_look hm hk W5 h5]
  refine KR_same ?_
  simp
  refine RL_wait fun v6 W6 h6 ⟨j, hj, hjs, hjb⟩ => ?_
  subst hj
  simp [hjb.cell 0 _ rfl, hjb.cell 1 _ rfl, hjb.cell 2 _ rfl, hjb.cell 3 _ rfl, hjb.thaw, cell_setCell]
  have hblt := q3'.lt
  have hrlt := q2'.lt
  have hM7 : Mod (fun i => i = j) W6 ((((W6.setCell ⟨j, 0, none⟩ (.string s)).setCell ⟨j, 1, none⟩ (fnV fl)).setCell ⟨j, 2, none⟩ (fnV fr)).setCell ⟨j, 3, none⟩ (fnV ff)) := ((((Mod.refl _ W6).setC 0 _).setC 1 _).setC 2 _).setC 3 _
  have j7 := (((hjb.set 0 (.string s)).set 1 (fnV fl)).set 2 (fnV fr)).set 3 (fnV ff)
  simp only [List.set_cons_zero, List.set_cons_succ] at j7
  refine KR_mk (agr_any (hM7.weaken fun _ _ => trivial)) ?_
  have hE56 := hWE.trans (h3.trans (hE4.trans (h5.trans h6)))
  have hsz6 := hE56.size
  have r3 := (q2'.ext hE56).mod hM7 (by omega)
  have t3 := (q3'.ext hE56).mod hM7 (by omega)
  have hs7 := (hs5.ext hE56).mod hM7 (by rw [hsb4]; omega)
  have hEw7 : Ext w ((((W6.setCell ⟨j, 0, none⟩ (.string s)).setCell ⟨j, 1, none⟩ (fnV fl)).setCell ⟨j, 2, none⟩ (fnV fr)).setCell ⟨j, 3, none⟩ (fnV ff)) := (((hEw5.trans hE56).mod (S := fun j => w.heap.size ≤ j)).trans (hM7.weaken fun i hi => by omega)).ext fun _ h => h
  generalize ((((W6.setCell ⟨j, 0, none⟩ (.string s)).setCell ⟨j, 1, none⟩ (fnV fl)).setCell ⟨j, 2, none⟩ (fnV fr)).setCell ⟨j, 3, none⟩ (fnV ff)) = w7 at *
  simp
  refine FN.mono (must_t 180 w7) ?_
  rintro _ w8 ⟨⟨u8, rfl⟩, h8⟩
  subst h8
  simp [j7.cell 2 _ rfl]
  refine FN.mono (hread w8 b rb v4 t3 hs7 (by rw [hsb4]; omega) (by rw [hsb4]; omega) (by omega) r3) ?_
  rintro _ w9 ⟨⟨u9, rfl⟩, v9, t9, hs9, r9, hM9⟩
  obtain ⟨a9, c9, hv9⟩ := hs9.isSlice
  subst hv9
  have hlen9 := fun ty W => hs9.isLen (P := Tryz.prog) (t := 48) (by simp) ty W
  have j9 := j7.mod hM9 (by omega)
  simp [t9.cell 0 _ rfl, hlen9, j9.cell 3 _ rfl, r9.cell 0 _ rfl, r9.cell 1 _ rfl, r9.cell 2 _ rfl, r9.cell 3 _ rfl, r9.cell 4 _ rfl, r9.cell 5 _ rfl, r9.cell 6 _ rfl, r9.cell 7 _ rfl, r9.cell 8 _ rfl, r9.cell 9 _ rfl, r9.cell 10 _ rfl, r9.cell 11 _ rfl, r9.cell 12 _ rfl, r9.cell 13 _ rfl, r9.cell 14 _ rfl]
  refine FN.mono (hfine w9) ?_
  rintro _ w10 ⟨rfl, hE10⟩
  simp
  refine FN.mono (must_t 180 w10) ?_
  rintro _ w11 ⟨⟨u11, rfl⟩, h11⟩
  subst h11
  have r11 := r9.ext hE10
  simp [r11.cell 0 _ rfl, r11.cell 1 _ rfl, r11.cell 2 _ rfl, r11.cell 3 _ rfl, r11.cell 4 _ rfl, r11.cell 5 _ rfl, r11.cell 6 _ rfl, r11.cell 7 _ rfl, r11.cell 8 _ rfl, r11.cell 9 _ rfl, r11.cell 10 _ rfl, r11.cell 11 _ rfl, r11.cell 12 _ rfl, r11.cell 13 _ rfl, r11.cell 14 _ rfl, r11.thaw, setCell_id (r11.cell 0 _ rfl), setCell_id (r11.cell 1 _ rfl), setCell_id (r11.cell 2 _ rfl), setCell_id (r11.cell 3 _ rfl), setCell_id (r11.cell 4 _ rfl), setCell_id (r11.cell 5 _ rfl), setCell_id (r11.cell 6 _ rfl), setCell_id (r11.cell 7 _ rfl), setCell_id (r11.cell 8 _ rfl), setCell_id (r11.cell 9 _ rfl), setCell_id (r11.cell 10 _ rfl), setCell_id (r11.cell 11 _ rfl), setCell_id (r11.cell 12 _ rfl), setCell_id (r11.cell 13 _ rfl), setCell_id (r11.cell 14 _ rfl)]
  exact (((hEw7.mod (S := fun j => w.heap.size ≤ j)).trans (hM9.weaken fun i hi => by omega)).ext fun _ h => h).trans hE10
end Go.Proofs
