/-
 Contracts of the functions that the law reaches,step by step.
-/
import Derived.Test.YtmmneeomcefgbaaGreatDoorAeD
import Derived.Test.YtmmneeomcefgbaaGreatDoorEngAH
namespace Go.Proofs
open Pk
set_option maxRecDepth 10000
theorem ccaught_panic {b : Nat} {e0 e : Int} {f : Value} {w : World} {R : World → Prop} (hb : Var w b (i64 e0)) (hf : CV Tryz.prog f [] (w.setCell ⟨b, 0, none⟩ (i64 e)) fun en w' => (∃ v, en = .returned v) ∧ R w') :
  CallsDIn (FR none) 0 Tryz.prog 192 #[ptr b,f] (.panicking [⟨.iface 48 (i64 e),false,false⟩]) w fun en u' w' => (∃ v,en = .returned v) ∧ settle u' = .returning ∧ R w' := by
 refine callsDIn_of_wpSIn Tryz.func192 rfl trivial fun c₀ cs hu => ?_
 apply wpSIn_seq
 apply wpSIn_region
 simp [wpOpsSIn,go_sem,recoverD,hu,Exit.thenS]
 refine wpSIn_of_wpIn rfl ?_
 obtain ⟨T,hT⟩ : ∃ T : Array Value,T = #[ptr b,f] ++ ((Array.replicate 12 undef).setIfInBounds 3 (.iface 48 (i64 e))).setIfInBounds 2 (.iface 48 (i64 e)) := ⟨_,rfl⟩
 rw [← hT]
 have hA : Ag 14 T (fun t => T.getD t undef) := ⟨by rw [hT]; simp,fun _ _ => rfl⟩
 have t0 : T.getD 0 undef = ptr b := by rw [hT]; rfl
 have t1 : T.getD 1 undef = f := by rw [hT]; rfl
 have t4 : T.getD 4 undef = .iface 48 (i64 e) := by rw [hT]; rfl
 generalize hρ : (fun t => T.getD t undef : Env) = ρ at hA
 have r0 : ρ 0 = ptr b := by rw [← hρ]; exact t0
 have r1 : ρ 1 = f := by rw [← hρ]; exact t1
 have r4 : ρ 4 = .iface 48 (i64 e) := by rw [← hρ]; exact t4
 refine wpIn_mono (vc_sound (r := none) _ (fun e _ ds w' => e = .normal ∧ ds = [] ∧ R w') ρ [] w ?_ (by kernel_rfl) _ hA) ?_
 ·have hn : ∀ W,(binOp .neq 20 (.iface 48 (i64 e)) .nilIface).run Tryz.prog W = .ok (.bool true) W := fun W => by simp [go_sem]
  have hta : ∀ W,(Instr.typeAssert (.iface 48 (i64 e)) 20 48 false).run Tryz.prog W = .ok (i64 e) W := fun W => by kernel_rfl
  simp [r0,r1,r4,hb.cell,hb.thaw,hn,hta]
  refine CV.mono hf ?_
  rintro _ w' ⟨⟨v,rfl⟩,hR⟩
  simp
  exact hR
 ·rintro _ a w' ⟨ρ',hA',rfl,hd,hR⟩
  exact ⟨hd,_,rfl,.tuple #[],by simp [results],⟨_,rfl⟩,rfl,hR⟩
theorem cLV_panic {rs : Array ResultVar} {R : Ending → World → Prop} {ρ : Env} {ds : List Deferred} {w : World} {b : Nat} {e0 e : Int} {f : Value} (hb : Var w b (i64 e0)) (hf : CV Tryz.prog f [] (w.setCell ⟨b, 0, none⟩ (i64 e)) fun en w' => (∃ v, en = .returned v) ∧ LV Tryz.prog rs R ρ ds .returning w') :
  LV Tryz.prog rs R ρ ({ target := .fn (.func 192) #[],args := #[ptr b,f] } :: ds) (.panicking [⟨.iface 48 (i64 e),false,false⟩]) w := by
 refine ⟨by simp, .inr ⟨.func 192, #[], 192, #[ptr b, f], rfl, ?_, ?_⟩⟩
 ·have := callFunc_enter Tryz.func192 rfl rfl #[ptr b,f] w
  simp [invoke]
 ·refine (ccaught_panic hb hf).mono ?_
  rintro en u' w' ⟨⟨v,rfl⟩,hu,hR⟩
  show LV _ _ _ _ _ (settle u') _
  rw [hu]
  exact hR
theorem acaught_panic {b : Nat} {e0 e : Int} {f : Value} {w : World} {R : World → Prop} (hb : Var w b (i64 e0)) (hf : CV Tryz.prog f [] (w.setCell ⟨b, 0, none⟩ (i64 e)) fun en w' => (∃ v, en = .returned v) ∧ R w') :
  CallsDIn (FR none) 0 Tryz.prog 152 #[ptr b,f] (.panicking [⟨.iface 48 (i64 e),false,false⟩]) w fun en u' w' => (∃ v,en = .returned v) ∧ settle u' = .returning ∧ R w' := by
 refine callsDIn_of_wpSIn Tryz.func152 rfl trivial fun c₀ cs hu => ?_
 apply wpSIn_seq
 apply wpSIn_region
 simp [wpOpsSIn,go_sem,recoverD,hu,Exit.thenS]
 refine wpSIn_of_wpIn rfl ?_
 obtain ⟨T,hT⟩ : ∃ T : Array Value,T = #[ptr b,f] ++ ((Array.replicate 12 undef).setIfInBounds 3 (.iface 48 (i64 e))).setIfInBounds 2 (.iface 48 (i64 e)) := ⟨_,rfl⟩
 rw [← hT]
 have hA : Ag 14 T (fun t => T.getD t undef) := ⟨by rw [hT]; simp,fun _ _ => rfl⟩
 have t0 : T.getD 0 undef = ptr b := by rw [hT]; rfl
 have t1 : T.getD 1 undef = f := by rw [hT]; rfl
 have t4 : T.getD 4 undef = .iface 48 (i64 e) := by rw [hT]; rfl
 generalize hρ : (fun t => T.getD t undef : Env) = ρ at hA
 have r0 : ρ 0 = ptr b := by rw [← hρ]; exact t0
 have r1 : ρ 1 = f := by rw [← hρ]; exact t1
 have r4 : ρ 4 = .iface 48 (i64 e) := by rw [← hρ]; exact t4
 refine wpIn_mono (vc_sound (r := none) _ (fun e _ ds w' => e = .normal ∧ ds = [] ∧ R w') ρ [] w ?_ (by kernel_rfl) _ hA) ?_
 ·have hn : ∀ W,(binOp .neq 20 (.iface 48 (i64 e)) .nilIface).run Tryz.prog W = .ok (.bool true) W := fun W => by simp [go_sem]
  have hta : ∀ W,(Instr.typeAssert (.iface 48 (i64 e)) 20 48 false).run Tryz.prog W = .ok (i64 e) W := fun W => by kernel_rfl
  simp [r0,r1,r4,hb.cell,hb.thaw,hn,hta]
  refine CV.mono hf ?_
  rintro _ w' ⟨⟨v,rfl⟩,hR⟩
  simp
  exact hR
 ·rintro _ a w' ⟨ρ',hA',rfl,hd,hR⟩
  exact ⟨hd,_,rfl,.tuple #[],by simp [results],⟨_,rfl⟩,rfl,hR⟩
theorem aLV_panic {rs : Array ResultVar} {R : Ending → World → Prop} {ρ : Env} {ds : List Deferred} {w : World} {b : Nat} {e0 e : Int} {f : Value} (hb : Var w b (i64 e0)) (hf : CV Tryz.prog f [] (w.setCell ⟨b, 0, none⟩ (i64 e)) fun en w' => (∃ v, en = .returned v) ∧ LV Tryz.prog rs R ρ ds .returning w') :
  LV Tryz.prog rs R ρ ({ target := .fn (.func 152) #[],args := #[ptr b,f] } :: ds) (.panicking [⟨.iface 48 (i64 e),false,false⟩]) w := by
 refine ⟨by simp, .inr ⟨.func 152, #[], 152, #[ptr b, f], rfl, ?_, ?_⟩⟩
 ·have := callFunc_enter Tryz.func152 rfl rfl #[ptr b,f] w
  simp [invoke]
 ·refine (acaught_panic hb hf).mono ?_
  rintro en u' w' ⟨⟨v,rfl⟩,hu,hR⟩
  show LV _ _ _ _ _ (settle u') _
  rw [hu]
  exact hR
end Go.Proofs
namespace Go.Proofs
open Pk
set_option maxRecDepth 10000
section
variable {P : Program} {w : World} {s n : Nat} {v : Value} {cs : List Value} {t : TypeId}
theorem slb_low (h : SlB w s v n cs) (hs : isS (P.underlying t) = true) (hz : ∀ W, (Go.sizeOf (elemT (P.underlying t))).run P W = .ok s W) (k : IntKind) (i : Nat) (hi : i ≤ n) :
  (∀ W,(Instr.sliceAt t v (some (.int k i)) none none).run P W = .ok (slcL v i s) W) ∧ SlB w s (slcL v i s) (n - i) (cs.drop (i * s)) := by
 by_cases h0 : 0 < n
 ·refine ⟨fun W => ?_,(h.dropL h0 i hi).toB⟩
  rw [h.sliceL h0 hs k i (by omega) (by omega) W,hz]
  rfl
 ·obtain rfl : n = 0 := by omega
  obtain rfl : i = 0 := by omega
  have hcs : cs = [] := List.eq_nil_of_length_eq_zero (by simpa using h.len)
  subst hcs
  obtain ⟨ao,c,rfl,-,-⟩ := h.val
  refine ⟨fun W => ?_,⟨by simp,⟨_,_,rfl,by omega,fun h => by omega⟩,fun j u hj => by simp at hj⟩⟩
  have hz' := hz W
  rw [elemT_of hs] at hz'
  rw [run_sliceAt_slice W t _ _ _ _ (elem_of hs)]
  have := run_slice_l W t ao 0 c (elem_of hs) k 0 (by omega) (by omega)
  rw [hz'] at this
  exact this
theorem slb_high (h : SlB w s v n cs) (hs : isS (P.underlying t) = true) (hz : ∀ W, (Go.sizeOf (elemT (P.underlying t))).run P W = .ok s W) (k : IntKind) (i : Nat) (hi : i ≤ n) :
  (∀ W,(Instr.sliceAt t v none (some (.int k i)) none).run P W = .ok (slcH v i) W) ∧ SlB w s (slcH v i) i (cs.take (i * s)) := by
 by_cases h0 : 0 < n
 ·refine ⟨fun W => ?_,((h.toSl h0).takeH i hi).toB⟩
  rw [(h.toSl h0).sliceH hs k i (by omega) (by omega) W,hz]
  rfl
 ·obtain rfl : n = 0 := by omega
  obtain rfl : i = 0 := by omega
  have hcs : cs = [] := List.eq_nil_of_length_eq_zero (by simpa using h.len)
  subst hcs
  obtain ⟨ao,c,rfl,-,-⟩ := h.val
  refine ⟨fun W => ?_,⟨by simp,⟨_,_,rfl,by omega,fun h => by omega⟩,fun j u hj => by simp at hj⟩⟩
  have hz' := hz W
  rw [elemT_of hs] at hz'
  rw [run_sliceAt_slice W t _ _ _ _ (elem_of hs)]
  have := run_slice_h W t ao 0 c (elem_of hs) k 0 (by omega) (by omega)
  rw [hz'] at this
  rw [show (slcH (.slice ao 0 c) 0) = sliced ao 0 (Int.toNat 0) c s by
   cases ao with
   | none => simp [slcH,sliced]
   | some a =>
    obtain ⟨b,o,m⟩ := a
    simp [slcH,sliced,Addr.add]]
  exact this
end
theorem zb1 (W : World) : (Go.sizeOf (elemT (Tryz.prog.underlying 27))).run Tryz.prog W = .ok 1 W := by simp
theorem zl1 (W : World) : (Go.sizeOf (elemT (Tryz.prog.underlying 306))).run Tryz.prog W = .ok 1 W := by simp
theorem u8one {l : List Int} : ∀ u ∈ l.map u8,u.oneCell' = true := fun u hu => by obtain ⟨z,-,rfl⟩ := List.mem_map.1 hu; rfl
theorem clone_c {w : World} {v : Value} {l : List Int} (h : SlB w 1 v l.length (l.map u8)) (hl : l.length ≤ 1000000) : FN Tryz.prog 312 [v] w fun e w' => ∃ v', e = .returned v' ∧ w'.ownsRow w.heap.size 5 1 v' l.length (l.map u8) ∧ Ext w w' := by
 obtain ⟨ao,c,rfl,-,ha⟩ := h.val
 refine FN_enter Tryz.func312 rfl rfl (by kernel_rfl) ?_
 simp
 cases ao with
 | none =>
  have h0 : l.length = 0 := by
   rcases Nat.eq_zero_or_pos l.length with h | h
   ·exact h
   ·obtain ⟨b,o,hb⟩ := ha h; cases hb
  have hl0 : l = [] := List.eq_nil_of_length_eq_zero h0
  subst hl0
  simp
  exact ⟨World.ownsRow_nil w _ _ _,Ext.refl w⟩
 | some a =>
  have ho := own_empty (e := 5) (s := 1) w w.heap.size (Nat.le_refl _)
  have hE := (Ext.refl w).alloc (.cells #[] 5)
  have s1 := hE.size
  obtain ⟨v',w',hr,ho',hE'⟩ := append_newB (P := Tryz.prog) (t := 306) (ty := 306) (e := 5) (s := 1) (by simp) (by simp) (by kernel_rfl) ho (h.ext hE) u8one hl s1
  simp [hr]
  exact ⟨ho',hE.trans hE'⟩
def beg (b p : List Int) : Bool := decide (p.length ≤ b.length) && decide (b.take p.length = p)
theorem begins_c {w : World} {v p : Value} {l q : List Int} (h : SlB w 1 v l.length (l.map u8)) (hp : SlB w 1 p q.length (q.map u8)) (hl : l.length ≤ 1000000) : FN Tryz.prog 296 [v, p] w fun e w' => e = .returned (.bool (beg l q)) ∧ Ext w w' := by
 refine FN_enter Tryz.func296 rfl rfl (by kernel_rfl) ?_
 have h1 := fun ty W => h.isLen (P := Tryz.prog) (t := 27) (by simp) ty W
 have h2 := fun ty W => hp.isLen (P := Tryz.prog) (t := 27) (by simp) ty W
 unfold beg
 by_cases hle : q.length ≤ l.length
 ·obtain ⟨hr,hS⟩ := slb_high (P := Tryz.prog) (t := 27) h (by simp) zb1 .i64 q.length hle
  have hS' : SlB w 1 (slcH v q.length) (l.take q.length).length ((l.take q.length).map u8) := by
   rw [List.length_take,Nat.min_eq_left hle,List.map_take]; simpa using hS
  simp [h1,h2,hle,hr]
  refine FN.mono (beq_c hS' hp (by rw [List.length_take]; omega)) ?_
  rintro _ w2 ⟨rfl,hE⟩
  simp
  exact ⟨fun _ => hle,hE⟩
 ·simp [h1,h2,hle]
  exact Ext.refl _
theorem cmust_f (e : Int) (w : World) : FN Tryz.prog 195 [.bool false, i64 e] w fun E w' => E = .panicked (panV e) ∧ w' = w := by
 refine FN_enter Tryz.func195 rfl rfl (by kernel_rfl) ?_
 simp
structure Lf (w0 w : World) (r : Nat) (bs : List Int) : Prop where
 v : ∃ v,Blk w r [v] ∧ SlB w0 1 v bs.length (bs.map u8)
 ext : Ext w0 w
 le : w0.heap.size ≤ r
 ok : ∀ x ∈ bs,0 ≤ x ∧ x ≤ 255
 len : bs.length ≤ 65536
theorem Lf.more {w0 w w' : World} {r : Nat} {bs : List Int} (h : Lf w0 w r bs) (hE : Ext w w') : Lf w0 w' r bs := by
 obtain ⟨v,h1,h2⟩ := h.v
 exact ⟨⟨v,h1.ext hE,h2⟩,h.ext.trans hE,h.le,h.ok,h.len⟩
theorem Lf.mod {w0 w w' : World} {r : Nat} {bs : List Int} (h : Lf w0 w r bs) {S : Nat → Prop} (hM : Mod S w w') (hS : ∀ k, S k → w0.heap.size ≤ k ∧ k ≠ r) : Lf w0 w' r bs := by
 obtain ⟨v,h1,h2⟩ := h.v
 refine ⟨⟨v,h1.mod hM (fun hk => (hS r hk).2 rfl),h2⟩,?_,h.le,h.ok,h.len⟩
 exact ((h.ext.mod (S := fun k => w0.heap.size ≤ k)).trans (hM.weaken fun k hk => (hS k hk).1)).ext fun _ h => h
theorem Lf.lt {w0 w : World} {r : Nat} {bs : List Int} (h : Lf w0 w r bs) : r < w.heap.size := by
 obtain ⟨v,h1,-⟩ := h.v
 exact h1.lt
set_option maxHeartbeats 1000000 in
theorem take_t {w0 w : World} {r : Nat} {bs : List Int} (h : Lf w0 w r bs) {k : Nat} (hk : k ≤ bs.length) : FN Tryz.prog 297 [ptr r, u64 k] w fun e w' => Mod (fun k => k = r) w w' ∧
  ∃ v,e = .returned v ∧ w'.ownsRow w.heap.size 5 1 v k ((bs.take k).map u8) ∧ Lf w0 w' r (bs.drop k) := by
 obtain ⟨v,hb,hS⟩ := h.v
 refine FN_enter Tryz.func297 rfl rfl (by kernel_rfl) ?_
 have hlen := fun ty W => hS.isLen (P := Tryz.prog) (t := 306) (by simp) ty W
 have hlb := h.len
 have hq : IntKind.u64.wrap (bs.length : Int) = bs.length := by simp [IntKind.wrap,IntKind.signed,IntKind.bits]; omega
 simp [hb.cell 0 _ rfl,hlen,hq,hk]
 refine FN.mono (must_c 121 w) ?_
 rintro _ w1 ⟨⟨u,rfl⟩,hw⟩
 subst hw
 obtain ⟨hr1,hS1⟩ := slb_high (P := Tryz.prog) (t := 306) hS (by simp) zl1 .u64 k hk
 obtain ⟨hr2,hS2⟩ := slb_low (P := Tryz.prog) (t := 306) hS (by simp) zl1 .u64 k hk
 have hS1' : SlB w1 1 (slcH v k) (bs.take k).length ((bs.take k).map u8) := by
  rw [List.length_take,Nat.min_eq_left hk,List.map_take]; simpa using hS1.ext h.ext
 simp [hb.cell 0 _ rfl,hr1]
 refine FN.mono (clone_c hS1' (by rw [List.length_take]; omega)) ?_
 rintro _ w2 ⟨v',rfl,ho,hE⟩
 rw [List.length_take,Nat.min_eq_left hk,List.map_take] at ho
 have b2 := hb.ext hE
 have hlt := hb.lt
 obtain ⟨a2,c2,hv2⟩ := hS2.isSlice
 have b3 := b2.set 0 (slcL v k 1)
 simp only [List.set_cons_zero] at b3
 have hM : Mod (fun j => j = r) w2 (w2.setCell ⟨r,0,none⟩ (slcL v k 1)) := (Mod.refl _ _).setC _ _
 rw [hv2] at hr2 b3 hM
 simp [b2.cell 0 _ rfl,b2.thaw,hr2]
 refine ⟨hE.mod.trans hM, own_keep ho fun hn hl => hM.blk _ hl (by have := own_ge ho hn; omega), ⟨_, b3, ?_⟩, ?_, h.le, fun x hx => h.ok x (List.mem_of_mem_drop hx), by rw [List.length_drop]; omega⟩
 ·rw [List.length_drop,List.map_drop,← hv2]
  simpa using hS2
 ·have hle := h.le
  exact (((h.ext.trans hE).mod (S := fun k => w0.heap.size ≤ k)).trans (hM.weaken fun k hk => by omega)).ext fun _ h => h
theorem take_f {w0 w : World} {r : Nat} {bs : List Int} (h : Lf w0 w r bs) {n : Int} (hn : (bs.length : Int) < n) : FN Tryz.prog 297 [ptr r, u64 n] w fun e w' => e = .panicked (panV 121) ∧ w' = w := by
 obtain ⟨v,hb,hS⟩ := h.v
 refine FN_enter Tryz.func297 rfl rfl (by kernel_rfl) ?_
 have hlen := fun ty W => hS.isLen (P := Tryz.prog) (t := 306) (by simp) ty W
 have hlb := h.len
 have hq : IntKind.u64.wrap (bs.length : Int) = bs.length := by simp [IntKind.wrap,IntKind.signed,IntKind.bits]; omega
 have hn' : ¬ n ≤ (bs.length : Int) := by omega
 simp [hb.cell 0 _ rfl,hlen,hq,hn']
 refine FN.mono (cmust_f 121 w) ?_
 rintro _ w1 ⟨rfl,hw⟩
 subst hw
 simp
def ofBe (l : List Int) : Int := l.foldl (fun n c => n * 256 + c) 0
theorem or_low (A c : Nat) (hA : A < 2 ^ 56) (hc : c < 256) : orI .u64 (shlI .u64 (A : Int) 8) (IntKind.u64.wrap (c : Int)) = ((A * 256 + c : Nat) : Int) := by
 have e1 : shlI .u64 (A : Int) 8 = ((A * 256 : Nat) : Int) := by
  unfold shlI
  rw [show min (8 : Int).toNat IntKind.u64.bits = 8 from by decide]
  simp [IntKind.wrap,IntKind.signed,IntKind.bits]
  omega
 have e2 : IntKind.u64.wrap (c : Int) = (c : Int) := by simp [IntKind.wrap,IntKind.signed,IntKind.bits]; omega
 rw [e1,e2]
 unfold orI
 rw [show IntKind.u64.bits = 64 from rfl,BitVec.toNat_or,BitVec.toNat_ofInt,BitVec.toNat_ofInt]
 have m1 : (((A * 256 : Nat) : Int) % ((2 ^ 64 : Nat) : Int)).toNat = A * 256 := by omega
 have m2 : ((c : Int) % ((2 ^ 64 : Nat) : Int)).toNat = c := by omega
 rw [m1,m2]
 have h := Nat.two_pow_add_eq_or_of_lt (i := 8) (b := c) (by omega) A
 have h' : A * 256 ||| c = A * 256 + c := by
  have e : 2 ^ 8 * A = A * 256 := by omega
  rw [e] at h; exact h.symm
 rw [h']
 simp [IntKind.wrap,IntKind.signed,IntKind.bits]
 omega
theorem ofBe_b : ∀ {l : List Int}, (∀ x ∈ l, 0 ≤ x ∧ x ≤ 255) → ∀ i, i ≤ l.length → ∃ A : Nat, ofBe (l.take i) = A ∧ A < 2 ^ (8 * i) := by
 intro l hb i
 induction i with
 | zero => intro _; exact ⟨0,by simp [ofBe],by simp⟩
 | succ i ih =>
  intro hi
  obtain ⟨A,hA,hlt⟩ := ih (by omega)
  have hq := List.getElem?_eq_getElem (l := l) (i := i) (by omega)
  have hx := hb l[i] (List.getElem_mem (by omega))
  have hsuc : ofBe (l.take (i + 1)) = ofBe (l.take i) * 256 + l[i] := by
   rw [List.take_add_one,hq]
   unfold ofBe
   rw [List.foldl_append]
   rfl
  refine ⟨A * 256 + l[i].toNat,by rw [hsuc,hA]; omega,?_⟩
  have : 2 ^ (8 * (i + 1)) = 2 ^ (8 * i) * 256 := by rw [Nat.mul_add,Nat.pow_add]
  rw [this]
  omega
theorem get_c {w : World} {v : Value} {l : List Int} (h : SlB w 1 v l.length (l.map u8)) (hl : isWid l.length) (hb : ∀ x ∈ l, 0 ≤ x ∧ x ≤ 255) : FN Tryz.prog 313 [v] w fun e w' => e = .returned (.tuple #[u64 (ofBe l), i64 0]) ∧ Ext w w' := by
 refine FN_enter Tryz.func313 rfl rfl (by kernel_rfl) ?_
 have hlen := fun ty W => h.isLen (P := Tryz.prog) (t := 27) (by simp) ty W
 have hd : decide ((l.length : Int) = 1 ∨ (l.length : Int) = 2 ∨ (l.length : Int) = 4 ∨ (l.length : Int) = 8) = true := decide_eq_true hl
 have hl8 : l.length ≤ 8 := by unfold isWid at hl; omega
 have hf : ∀ W,(Instr.field 366 (.agg #[i64 l.length,u64 0]) 0).run Tryz.prog W = .ok (i64 l.length) W := fun W => by kernel_rfl
 simp [hlen,hf]
 refine FN.mono (isW_c (l.length : Int) w) ?_
 rintro _ w1 ⟨rfl,hE1⟩
 simp [hd,hlen]
 refine WC_loop (fun m ρ ds w' => ∃ i : Nat, m = l.length - i ∧ i ≤ l.length ∧ ρ 4 = u64 (ofBe (l.take i)) ∧ ρ 13 = v ∧ ρ 14 = i64 l.length ∧ ρ 15 = i64 i ∧ ds = [] ∧ w' = w1) l.length
  ⟨0,by simp,by simp,by simp [ofBe],by simp,by simp,by simp,rfl,rfl⟩ ?_
 rintro m ρ ds w2 ⟨i,rfl,hi,e4,e13,e14,e15,rfl,rfl⟩
 by_cases hlt : i < l.length
 ·have hq := List.getElem?_eq_getElem hlt
  have c := (h.ext hE1).at_ i (u8 l[i]) (by simp [hlt])
  have ix := h.index (P := Tryz.prog) (t := 27) (by simp) .i64 i (by omega) (by omega) w2
  have hsuc : ofBe (l.take (i + 1)) = ofBe (l.take i) * 256 + l[i] := by
   rw [List.take_add_one,hq]
   unfold ofBe
   rw [List.foldl_append]
   rfl
  simp at ix
  obtain ⟨A,hA,hAl⟩ := ofBe_b hb i hi
  have hx := hb l[i] (List.getElem_mem hlt)
  have hA56 : A < 2 ^ 56 := Nat.lt_of_lt_of_le hAl (Nat.pow_le_pow_right (by omega) (by omega))
  have hor : orI .u64 (shlI .u64 (ofBe (l.take i)) 8) (IntKind.u64.wrap l[i]) = ofBe (l.take (i + 1)) := by
   have := or_low A l[i].toNat hA56 (by omega)
   rw [show ((l[i].toNat : Nat) : Int) = l[i] from by omega] at this
   rw [hsuc,hA,this]
   omega
  have hw1 : IntKind.i64.wrap ((i : Int) + 1) = i + 1 := wrap64 _ (by omega) (by omega)
  simp [e4,e13,e14,e15,hlt,ix,c,hor,hw1]
  exact ⟨l.length - (i + 1),by omega,i + 1,rfl,by omega,rfl,by push_cast; rfl⟩
 ·obtain rfl : i = l.length := by omega
  rw [List.take_length] at e4
  simp [e4,e14,e15]
  exact hE1
end Go.Proofs
namespace Go.Proofs
open Pk
set_option maxRecDepth 10000
theorem shr5 (c : Int) : shrI .u8 c 5 = c / 32 := by
 unfold shrI
 rw [show min (5 : Int).toNat IntKind.u8.bits = 5 from by decide, Int.fdiv_eq_ediv_of_nonneg]
 ·simp
 ·decide
theorem and31 {c : Int} (h0 : 0 ≤ c) (h1 : c ≤ 255) : andI .u8 c 31 = c % 32 := by
 obtain ⟨k,rfl⟩ : ∃ k : Nat,c = k := ⟨c.toNat,by omega⟩
 unfold andI
 rw [show IntKind.u8.bits = 8 from rfl,BitVec.toNat_and,BitVec.toNat_ofInt,BitVec.toNat_ofInt]
 have m1 : ((k : Int) % ((2 ^ 8 : Nat) : Int)).toNat = k := by omega
 have m2 : ((31 : Int) % ((2 ^ 8 : Nat) : Int)).toNat = 31 := by decide
 rw [m1,m2,show (31 : Nat) = 2 ^ 5 - 1 from rfl,Nat.and_two_pow_sub_one_eq_mod]
 simp [IntKind.wrap,IntKind.signed,IntKind.bits]
 omega
def headQ (bs rest : List Int) (major n : Int) : Bool := beg bs (headB major n) && decide ((bs.length : Int) - rest.length = (headB major n).length)
def headP : List Int → Option (Int × Int × List Int)
 | [] => none
 | c :: r =>
  if c % 32 < 24 then (if headQ (c :: r) r (c / 32) (c % 32) then some (c / 32,c % 32,r) else none)
  else if c % 32 < 28 then
   (if 2 ^ (c % 32 - 24).toNat ≤ r.length then
    (if headQ (c :: r) (r.drop (2 ^ (c % 32 - 24).toNat)) (c / 32) (ofBe (r.take (2 ^ (c % 32 - 24).toNat))) then some (c / 32,ofBe (r.take (2 ^ (c % 32 - 24).toNat)),r.drop (2 ^ (c % 32 - 24).toNat)) else none)
   else none)
  else none
theorem headP_cons (c : Int) (r : List Int) : headP (c :: r) = if c % 32 < 24 then (if headQ (c :: r) r (c / 32) (c % 32) then some (c / 32, c % 32, r) else none)
  else if c % 32 < 28 then
   (if 2 ^ (c % 32 - 24).toNat ≤ r.length then
    (if headQ (c :: r) (r.drop (2 ^ (c % 32 - 24).toNat)) (c / 32) (ofBe (r.take (2 ^ (c % 32 - 24).toNat))) then some (c / 32,ofBe (r.take (2 ^ (c % 32 - 24).toNat)),r.drop (2 ^ (c % 32 - 24).toNat)) else none)
   else none)
  else none := rfl
def RhR (w0 w w' : World) (r : Nat) (o : Option (Int × Int × List Int)) (e : Ending) : Prop := Mod (fun k => k = r) w w' ∧ match o with
 | none => e = .panicked (panV 121)
 | some (m,n,rest) => e = .returned (.tuple #[i64 m,u64 n]) ∧ Lf w0 w' r rest
set_option maxHeartbeats 2000000 in
theorem rhead_c {w0 w : World} {r : Nat} {bs : List Int} (h : Lf w0 w r bs) : FN Tryz.prog 298 [ptr r] w fun e w' => RhR w0 w w' r (headP bs) e := by
 obtain ⟨v,hb,hS⟩ := h.v
 refine FN_enter Tryz.func298 rfl rfl (by kernel_rfl) ?_
 have hlen := fun ty W => hS.isLen (P := Tryz.prog) (t := 306) (by simp) ty W
 obtain ⟨va,vc,rfl⟩ := hS.isSlice
 cases bs with
 | nil =>
  simp [hb.cell 0 _ rfl]
  refine FN.mono (take_f h (n := 1) (by simp)) ?_
  rintro _ w1 ⟨rfl,hw⟩
  subst hw
  simp
  exact ⟨Mod.refl _ _,rfl⟩
 | cons c r' =>
  have hc := h.ok c (by simp)
  simp [hb.cell 0 _ rfl]
  have ht := take_t h (k := 1) (by simp)
  refine FN.mono (ht) ?_
  rintro _ w1 ⟨hM1,v1,rfl,ho1,hL1⟩
  simp at hL1 ho1
  obtain ⟨a1,c1,rfl⟩ := own_val ho1
  have ix := fun W => (sl_of_own ho1).index (P := Tryz.prog) (t := 27) (by simp) .i64 0 (by omega) (by omega) W
  have c0 := (sl_of_own ho1).at_ 0 (u8 c) rfl
  simp at ix c0
  have w1q : IntKind.i64.wrap (c / 32) = c / 32 := wrap64 _ (by omega) (by omega)
  have w2q : IntKind.u64.wrap (c % 32) = c % 32 := by simp [IntKind.wrap,IntKind.signed,IntKind.bits]; omega
  have hsh := shr5 c
  have han := and31 hc.1 hc.2
  obtain ⟨mj,hmj⟩ : ∃ mj,mj = c / 32 := ⟨_,rfl⟩
  obtain ⟨lo,hlo⟩ : ∃ lo,lo = c % 32 := ⟨_,rfl⟩
  have hmb : 0 ≤ mj ∧ mj ≤ 7 := by omega
  have hlb : 0 ≤ lo ∧ lo < 32 := by omega
  rw [← hmj] at hsh w1q
  rw [← hlo] at han w2q
  have b1 := h.v
  obtain ⟨n0,hn0⟩ : ∃ n0,n0 = r'.length + 1 := ⟨_,rfl⟩
  have hown : SlB w0 1 (.slice va n0 vc) (c :: r').length ((c :: r').map u8) := by rw [hn0]; exact hS
  simp [ix,c0,hsh,han,w1q,w2q]
  rw [← hn0]
  refine with_tail (T := ∀ (σ : Env) (W : World) (n : Int) (rest : List Int),σ 0 = ptr r → σ 4 = .slice va n0 vc → σ 6 = i64 mj → σ 7 = u64 n → 0 ≤ n → Lf w0 W r rest → Mod (fun k => k = r) w W → headP (c :: r') = (if headQ (c :: r') rest mj n then some (mj,n,rest) else none) → WCt Tryz.prog 63 none ?dC ?dQ Tok.mk σ [] W) (fun tail => ?br) ?jn
  case br =>
   by_cases hl24 : lo < 24
   ·have hn24 : ¬ 24 ≤ lo := by omega
    simp [hn24]
    refine tail _ _ lo r' ?_ ?_ ?_ ?_ hlb.1 hL1 hM1 ?_
    ·simp
    ·simp
    ·simp
    ·simp
    ·rw [headP_cons,← hmj,← hlo,if_pos hl24]
   ·have hn24 : 24 ≤ lo := by omega
    by_cases hl28 : lo < 28
    ·obtain ⟨k,hk⟩ : ∃ k : Nat,lo = 24 + k ∧ k ≤ 3 := ⟨(lo - 24).toNat,by omega,by omega⟩
     obtain ⟨d,hd⟩ : ∃ d : Nat,d = 2 ^ k := ⟨_,rfl⟩
     have hdw : isWid d := by
      have hk3 := hk.2
      unfold isWid
      match k,hk3 with
      | 0,_ => simp at hd; omega
      | 1,_ => simp at hd; omega
      | 2,_ => simp at hd; omega
      | 3,_ => simp at hd; omega
     have hsub : IntKind.u64.wrap (lo - 24) = (k : Int) := by rw [hk.1]; simp [IntKind.wrap,IntKind.signed,IntKind.bits]; omega
     have hshl : shlI .u64 1 (k : Int) = (d : Int) := by rw [hd]; exact shlI_one (by omega)
     have hkt : (lo - 24).toNat = k := by omega
     simp [hn24,hl28]
     refine FN.mono (must_c 121 w1) ?_
     rintro _ w2 ⟨⟨u,rfl⟩,hw2⟩
     subst hw2
     simp [hsub,hshl]
     by_cases hdl : d ≤ r'.length
     ·have ht2 := take_t hL1 hdl
      refine FN.mono (ht2) ?_
      rintro _ w3 ⟨hM3,v3,rfl,ho3,hL3⟩
      simp
      have hS3 : SlB w3 1 v3 (r'.take d).length ((r'.take d).map u8) := by
       rw [List.length_take,Nat.min_eq_left hdl]
       exact (sl_of_own ho3).toB
      have hg := get_c hS3 (by rw [List.length_take,Nat.min_eq_left hdl]; exact hdw) (fun x hx => h.ok x (by simp; exact .inr (List.mem_of_mem_take hx)))
      refine FN.mono (hg) ?_
      rintro _ w4 ⟨rfl,hE4⟩
      simp
      obtain ⟨A,hA,-⟩ := ofBe_b (l := r'.take d) (fun x hx => h.ok x (by simp; exact .inr (List.mem_of_mem_take hx))) d (by rw [List.length_take,Nat.min_eq_left hdl]; omega)
      rw [List.take_take,Nat.min_self] at hA
      refine tail _ _ (ofBe (r'.take d)) (r'.drop d) ?_ ?_ ?_ ?_ (by omega) (hL3.more hE4) ((hM1.trans hM3).trans hE4.mod) ?_
      ·simp
      ·simp
      ·simp
      ·simp
      ·rw [headP_cons,← hmj,← hlo,if_neg hl24,if_pos hl28,hkt,← hd,if_pos hdl]
     ·refine FN.mono (take_f hL1 (n := d) (by omega)) ?_
      rintro _ w3 ⟨rfl,hw3⟩
      subst hw3
      simp
      rw [headP_cons,← hmj,← hlo,if_neg hl24,if_pos hl28,hkt,← hd,if_neg hdl]
      exact ⟨hM1,rfl⟩
    ·simp [hn24,hl28]
     refine FN.mono (cmust_f 121 w1) ?_
     rintro _ w2 ⟨rfl,hw2⟩
     subst hw2
     simp
     rw [headP_cons,← hlo,if_neg hl24,if_neg hl28]
     exact ⟨hM1,rfl⟩
  case jn =>
   intro σ W n rest e0 e4 e6 e7 hn0' hL hM hP
   rw [hP]
   refine WC_drawC 18 (.F 0 <| .F 1 <| .F 2 <| .C 3 <| .C 4 <| .F 5 <| .F 6 <| .F 7 <| .F 8 <| .F 9 <| .F 10 <| .F 11 <| .F 12 <| .F 13 <| .F 14 <| .F 15 <| .C 16 <| .F 17 <| .Z) (fun _ => false) rfl (by kernel_rfl) fun W1 hW1 => ?_
   have hWE : Ext W W1 := hW1 ▸ Ext.drew _
   have hL1 := hL.more hWE
   simp [e4,e6,e7]
   refine FN.mono (head_c hmb hn0' W1) ?_
   rintro _ W2 ⟨v2,rfl,ho2,hE2⟩
   simp [e4,e6,e7]
   refine KR_ext hE2 ?_
   have hL2 := hL1.more hE2
   simp
   have hb2 := begins_c (hown.ext hL2.ext) (sl_of_own ho2).toB (by have := h.len; omega)
   refine FN.mono (hb2) ?_
   rintro _ W3 ⟨rfl,hE3⟩
   simp
   refine KR_ext hE3 ?_
   have hL3 := hL2.more hE3
   unfold headQ
   obtain ⟨v3,b3,hS3⟩ := hL3.v
   have hlen3 := fun ty W => hS3.isLen (P := Tryz.prog) (t := 306) (by simp) ty W
   have hlown := fun ty W => hown.isLen (P := Tryz.prog) (t := 306) (by simp) ty W
   have hM3 := (hM.trans hWE.mod).trans ((hE2.trans hE3).mod)
   cases hbg : beg (c :: r') (headB mj n) with
   | false =>
    simp
    refine FN.mono (cmust_f 121 W3) ?_
    rintro _ W4 ⟨rfl,hw4⟩
    subst hw4
    simp
    exact ⟨hM3,rfl⟩
   | true =>
    simp [e0,e4,e6,e7,b3.cell 0 _ rfl,hlen3,hlown]
    refine FN.mono (head_c hmb hn0' W3) ?_
    rintro _ W4 ⟨v4,rfl,ho4,hE4⟩
    have hlen4 := fun ty W => (sl_of_own ho4).isLen (P := Tryz.prog) (t := 27) (by simp) ty W
    have h1 := h.len
    have h2 := hL.len
    have h3 := headB_len mj n
    simp only [List.length_cons] at h1
    have hwq : IntKind.i64.wrap ((r'.length : Int) + 1 - rest.length) = (r'.length : Int) + 1 - rest.length := wrap64 _ (by omega) (by omega)
    simp [e0,e4,e6,e7]
    refine KR_ext hE4 ?_
    have hL4 := hL3.more hE4
    have hM4 := hM3.trans hE4.mod
    by_cases heq : (r'.length : Int) + 1 - rest.length = (headB mj n).length
    ·have hwq2 : IntKind.i64.wrap ((headB mj n).length : Int) = (headB mj n).length := wrap64 _ (by omega) (by omega)
     simp [hlen4,heq,hwq2]
     refine FN.mono (must_c 121 W4) ?_
     rintro _ W5 ⟨⟨u5,rfl⟩,hw5⟩
     subst hw5
     simp [e6,e7]
     rw [if_pos heq]
     exact ⟨hM4,rfl,hL4⟩
    ·have heq' : ((r'.length : Int) + 1 - rest.length == (headB mj n).length) = false := by simpa using heq
     simp [hlen4,hwq,heq,heq']
     refine FN.mono (cmust_f 121 W4) ?_
     rintro _ W5 ⟨rfl,hw5⟩
     subst hw5
     simp
     rw [if_neg heq]
     exact ⟨hM4,rfl⟩
end Go.Proofs