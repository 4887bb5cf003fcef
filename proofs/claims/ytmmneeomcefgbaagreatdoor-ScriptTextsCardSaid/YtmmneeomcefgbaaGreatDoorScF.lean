/-
  Contracts of the functions that the law reaches,step by step.
-/
import Derived.Test.YtmmneeomcefgbaaGreatDoorScE
namespace Go.Proofs
open Pk
set_option maxRecDepth 10000
attribute [local simp] beq_dec bne_dec
/-! ### Bytes and truths,read -/
abbrev hexL : Tx := [48,49,50,51,52,53,54,55,56,57,97,98,99,100,101,102]
def hexd (c : UInt8) : Option Nat := if 48 ≤ c.toNat ∧ c.toNat ≤ 57 then some (c.toNat - 48) else if 97 ≤ c.toNat ∧ c.toNat ≤ 102 then some (c.toNat - 87) else none
theorem hexd_lt {c : UInt8} {d : Nat} (h : hexd c = some d) : d < 16 := by
  unfold hexd at h
  split at h
  · cases h; omega
  · split at h
    · cases h; omega
    · cases h
def hexI (c : UInt8) : Int := match hexd c with
  | none => -1
  | some d => d
theorem ix_hexF : ∀ n : Fin 256,Lib.indexByte hexL (UInt8.ofNat n.val) = hexI (UInt8.ofNat n.val) := by decide +kernel
theorem ix_hex (c : UInt8) : Lib.indexByte hexL c = hexI c := by
  have := ix_hexF ⟨c.toNat,c.toNat_lt⟩
  simpa using this
def pairsP : Tx → Option (List UInt8)
  | [] => some []
  | [_] => none
  | a :: b :: r => match hexd a, hexd b, pairsP r with
    | some x,some y,some l => some (UInt8.ofNat (16 * x + y) :: l)
    | _,_,_ => none
def unhexP (s : Tx) : Option (List UInt8) := if s = [45] then some [] else if s ≠ [] ∧ s.length % 2 = 0 then pairsP s else none
/-- What a reading of a row tells. -/
def RdR (w w' : World) (rb b : Nat) (o : Option (List Value × List Tx)) (e : Ending) : Prop :=
  Mod (fun k => k = b) w w' ∧ match o with
  | none => e = .panicked panS
  | some (cs,r) => Rw w' rb b r ∧ ∃ v,e = .returned v ∧ Sl w' 1 v cs.length cs ∧ (cs ≠ [] → w.heap.size ≤ slB v)
def octQ (l : List Tx) : Option (List UInt8 × List Tx) := wordP unhexP l
theorem ixb_c (c : UInt8) (w : World) : FN Tryz.prog 147 [.string ⟨#[48, 49, 50, 51, 52, 53, 54, 55, 56, 57, 97, 98, 99, 100, 101, 102]⟩, u8 c.toNat] w fun e w' => e = .returned (i64 (hexI c)) ∧ w' = w := by
  refine FN.mono (FN_of_calls Tryz.func147 rfl rfl (Tryz.strings_IndexByte ⟨#[48,49,50,51,52,53,54,55,56,57,97,98,99,100,101,102]⟩ c.toNat w)) ?_
  rintro e w' ⟨rfl,rfl⟩
  refine ⟨?_,rfl⟩
  have : (c.toNat : Int).toNat.toUInt8 = c := by simp
  rw [this,← ix_hex]
set_option maxHeartbeats 4000000 in
theorem roctets_c {w : World} {rb b : Nat} {l : List Tx} (h : Rw w rb b l) (hr : rb < w.heap.size) (hl : l.length ≤ 1000000) (hls : ∀ s ∈ l, s.length ≤ 1000000) :
    FN Tryz.prog 119 [ptr b] w fun e w' => RdR w w' rb b ((octQ l).map fun x => (x.1.map encB,x.2)) e := by
  refine FN_enter Tryz.func119 rfl rfl (by kernel_rfl) ?_
  have hb := h.lt
  simp
  refine FN.mono (wnext_c h hl) ?_
  rintro _ w1 ⟨hM1,hp⟩
  cases l with
  | nil =>
    obtain rfl : _ = _ := hp
    simp
    exact ⟨hM1,by simp [octQ,wordP]⟩
  | cons s r =>
    obtain ⟨rfl,h1⟩ := hp
    have hsl := hls s (by simp)
    have s1 := hM1.size
    have hQ : octQ (s :: r) = match unhexP s with | none => none | some x => some (x, r) := by
      simp only [octQ,wordP]
      cases unhexP s <;> rfl
    by_cases hd : s = [45]
    · have hq : (s == [45]) = true := by rw [hd]; rfl
      simp [hq]
      refine ⟨hM1,?_⟩
      rw [hQ,show unhexP s = some [] by simp [unhexP,hd]]
      exact ⟨h1,_,rfl,Sl.nil _ _ _,fun h => absurd rfl h⟩
    have hq : (s == [45]) = false := by simpa using hd
    by_cases he : s = []
    · have hE : s.isEmpty = true := by rw [he]; rfl
      simp [hq,hE]
      refine FN.mono (smust_f w1) ?_
      rintro _ w2 ⟨rfl,rfl⟩
      simp
      refine ⟨hM1,?_⟩
      rw [hQ,show unhexP s = none by simp [unhexP,he]]
      trivial
    have hE : s.isEmpty = false := by
      cases s with
      | nil => exact absurd rfl he
      | cons _ _ => rfl
    by_cases h2 : s.length % 2 = 0
    · obtain ⟨N,hN⟩ : ∃ N,s.length = 2 * N := ⟨s.length / 2,by omega⟩
      have h2' : ((2 : Int) * N).tmod 2 = 0 := by rw [Int.tmod_eq_emod_of_nonneg (by omega)]; omega
      have hU : unhexP s = pairsP s := by unfold unhexP; rw [if_neg hd,if_pos ⟨he,h2⟩]
      have hdv : ((2 : Int) * N).tdiv 2 = N := by rw [Int.tdiv_eq_ediv_of_nonneg (by omega)]; omega
      have hwN : IntKind.i64.wrap (N : Int) = N := wrap64 _ (by omega) (by omega)
      simp [hq,hE,hN,h2']
      refine FN.mono (smust_t w1) ?_
      rintro _ w2 ⟨⟨u,rfl⟩,rfl⟩
      simp [hN,hdv,hwN]
      refine WC_loop (fun m ρ ds w' => ∃ (i : Nat) (v : Value) (dn : List UInt8), m = N - i ∧ i ≤ N ∧ ρ 3 = tv s ∧ ρ 24 = i64 N ∧ ρ 25 = i64 i ∧ ρ 2 = v ∧ ds = [] ∧ Ext w2 w' ∧ w'.ownsRow w2.heap.size 5 1 v i (dn.map encB) ∧ dn.length = i ∧ pairsP s = (pairsP (s.drop (2 * i))).map (dn ++ ·)) (N)
        ⟨0,_,[],by simp,by simp,by simp,by simp,by simp,by simp,rfl,Ext.refl _,own_nothing _ _ _ _,rfl,by simp⟩ ?_
      rintro m ρ ds w3 ⟨i,v,dn,rfl,hi,e3,e24,e25,e2,rfl,hE3,ho3,hdl,hP⟩
      by_cases hlt : i < N
      · have hlt' : (i : Int) < N := by omega
        have ix0 : ∀ W, (Instr.index 9 (tv s) (i64 (2 * (i : Int)))).run Tryz.prog W = .ok (u8 s[2 * i].toNat) W := fun W => by
          have := r_index_str (P := Tryz.prog) (w := W) (t := 9) ⟨s.toArray⟩ .i64 (2 * i) (by simp) (by simp; omega)
          rw [show ((2 * i : Nat) : Int) = 2 * (i : Int) by omega] at this
          exact this
        have ix1 : ∀ W, (Instr.index 9 (tv s) (i64 (2 * (i : Int) + 1))).run Tryz.prog W = .ok (u8 s[2 * i + 1].toNat) W := fun W => by
          have := r_index_str (P := Tryz.prog) (w := W) (t := 9) ⟨s.toArray⟩ .i64 (2 * i + 1) (by simp) (by simp; omega)
          rw [show ((2 * i + 1 : Nat) : Int) = 2 * (i : Int) + 1 by omega] at this
          exact this
        have hm1 : IntKind.i64.wrap (2 * (i : Int)) = 2 * i := wrap64 _ (by omega) (by omega)
        have hm2 : IntKind.i64.wrap (2 * (i : Int) + 1) = 2 * i + 1 := wrap64 _ (by omega) (by omega)
        have hdr : s.drop (2 * i) = s[2 * i] :: s[2 * i + 1] :: s.drop (2 * (i + 1)) := by
          rw [List.drop_eq_getElem_cons (by omega),List.drop_eq_getElem_cons (by omega)]
          rfl
        rw [hdr] at hP
        simp [e24,e25,hlt']
        refine WC_drawL 10 (.F 0 <| .F 1 <| .F 2 <| .F 5 <| .F 6 <| .F 7 <| .F 8 <| .D 9 <| .L 3 <| .L 4 <| .W 9 <| .Z) (fun _ => false) (fun _ => false) (fun _ u _ => u = u8 s[2 * i + 1].toNat) rfl (by kernel_rfl) (fun _ h => h) (fun _ _ _ _ h1 _ => h1) fun W hW => ?_
        have hWE : Ext w3 W := hW ▸ Ext.drew _
        simp [e3,hm1,hm2]
        refine RL_float (fun W' h' => ?_) ?_
        · simp [ix1]
          exact Ext.refl _
        simp
        refine RL_loose fun W4 h4 => ?_
        simp [ix0]
        refine KR_same ?_
        simp
        refine RL_loose fun W5 h5 => ?_
        simp
        refine FN.mono (ixb_c s[2 * i] W5) ?_
        rintro _ w6 ⟨rfl,rfl⟩
        simp
        refine KR_same ?_
        simp
        refine RL_wait fun v7 W7 h7 hv7 => ?_
        subst hv7
        simp
        refine FN.mono (ixb_c s[2 * i + 1] W7) ?_
        rintro _ w8 ⟨rfl,rfl⟩
        have hE8 : Ext w3 w8 := hWE.trans (h4.trans (h5.trans h7))
        simp
        by_cases hok : 0 ≤ hexI s[2 * i] ∧ 0 ≤ hexI s[2 * i + 1]
        · have hmin : 0 ≤ min (hexI s[2 * i]) (hexI s[2 * i + 1]) := by omega
          obtain ⟨x, hx⟩ : ∃ x, hexd s[2 * i] = some x := by
            cases hq : hexd s[2 * i] with
            | none => have := hok.1; unfold hexI at this; rw [hq] at this; simp at this
            | some x => exact ⟨x,rfl⟩
          obtain ⟨y, hy⟩ : ∃ y, hexd s[2 * i + 1] = some y := by
            cases hq : hexd s[2 * i + 1] with
            | none => have := hok.2; unfold hexI at this; rw [hq] at this; simp at this
            | some x => exact ⟨x,rfl⟩
          have hxi : hexI s[2 * i] = x := by unfold hexI; rw [hx]
          have hyi : hexI s[2 * i + 1] = y := by unfold hexI; rw [hy]
          have hx16 := hexd_lt hx
          have hy16 := hexd_lt hy
          rw [hxi,hyi] at hmin ⊢
          simp [hmin]
          refine FN.mono (smust_t w8) ?_
          rintro _ w9 ⟨⟨u9,rfl⟩,rfl⟩
          have k1 : IntKind.i64.wrap (16 * (x : Int)) = 16 * x := wrap64 _ (by omega) (by omega)
          have k2 : IntKind.i64.wrap (16 * (x : Int) + y) = 16 * x + y := wrap64 _ (by omega) (by omega)
          have k3 : IntKind.u8.wrap (16 * (x : Int) + y) = 16 * x + y := wrap8u _ (by omega) (by omega)
          have hE9 : Ext w9 (w9.alloc (.cells #[u8 (16 * (x : Int) + y)] 5)) := (Ext.refl _).alloc _
          have sl9 : Sl (w9.alloc (.cells #[u8 (16 * (x : Int) + y)] 5)) 1 (.slice (some ⟨w9.heap.size,0,none⟩) 1 1) 1 [u8 (16 * (x : Int) + y)] := Sl.made w9 [u8 (16 * (x : Int) + y)] 5 1 1 rfl
          have z3 := hE3.size
          have z8 := hE8.size
          have z9 := hE9.size
          obtain ⟨v',w10,hr,ho10,hM10,-⟩ := append_own (P := Tryz.prog) (t := 27) (ty := 27) (e := 5) (s := 1) (by simp) (by simp) (by kernel_rfl) (own_ext ho3 (hE8.trans hE9)) sl9 (fun u hu => by simp at hu; rw [hu]; rfl) (by omega) (by omega)
          have hE10 : Ext w2 w10 := ((((hE3.trans (hE8.trans hE9)).mod (S := fun k => w2.heap.size ≤ k)).trans (hM10.weaken fun k hk => by have := own_ge ho3 hk.1; omega))).ext fun _ h => h
          simp [e2,e3,e24,e25,k1,k2,k3,hr]
          have hwi : IntKind.i64.wrap ((i : Int) + 1) = i + 1 := wrap64 _ (by omega) (by omega)
          have hnat : (UInt8.ofNat (16 * x + y)).toNat = 16 * x + y := by
            rw [UInt8.toNat_ofNat']; omega
          have hpz : pairsP s = (pairsP (s.drop (2 * (i + 1)))).map ((dn ++ [UInt8.ofNat (16 * x + y)]) ++ ·) := by
            have hp2 : ∀ r, pairsP (s[2 * i] :: s[2 * i + 1] :: r) = match hexd s[2 * i], hexd s[2 * i + 1], pairsP r with
                | some x,some y,some l => some (UInt8.ofNat (16 * x + y) :: l)
                | _,_,_ => none := fun r => by rw [pairsP]
            rw [hP,hp2,hx,hy]
            cases pairsP (s.drop (2 * (i + 1))) with
            | none => rfl
            | some l =>
              show some (dn ++ (UInt8.ofNat (16 * x + y) :: l)) = some ((dn ++ [UInt8.ofNat (16 * x + y)]) ++ l)
              rw [List.append_assoc]; rfl
          generalize UInt8.ofNat (16 * x + y) = c at *
          rw [hwi]
          refine ⟨N - (i + 1), by omega, i + 1, rfl, by omega, by omega, hE10, dn ++ [c], ?_, by simp [hdl], hpz⟩
          · rw [List.map_append]
            have : List.map encB [c] = [u8 (16 * (x : Int) + y)] := by
              simp only [List.map_cons,List.map_nil,encB,hnat]
              rw [show ((16 * x + y : Nat) : Int) = 16 * (x : Int) + y by omega]
            rw [this]; exact ho10
        · have hmin : ¬ 0 ≤ min (hexI s[2 * i]) (hexI s[2 * i + 1]) := by omega
          have hnone : pairsP s = none := by
            rw [hP]
            unfold hexI at hok
            simp only [pairsP]
            cases hq1 : hexd s[2 * i] with
            | none => rfl
            | some x =>
              cases hq2 : hexd s[2 * i + 1] with
              | none => rfl
              | some y =>
                exfalso
                rw [hq1,hq2] at hok
                exact hok ⟨by simp,by simp⟩
          simp [hmin]
          refine FN.mono (smust_f w8) ?_
          rintro _ w9 ⟨rfl,rfl⟩
          simp
          refine ⟨hM1.trans (hE3.trans hE8).mod,?_⟩
          rw [hQ,hU,hnone]
          trivial
      · have hi' : i = N := by omega
        have hlt' : ¬ (i : Int) < N := by omega
        have hdr : s.drop (2 * i) = [] := List.drop_eq_nil_of_le (by omega)
        rw [hdr] at hP
        obtain ⟨va,vc,hv⟩ := own_val ho3
        simp [e24,e25,e2,hlt']
        refine ⟨hM1.trans hE3.mod,?_⟩
        rw [hQ,hU,hP]
        simp [pairsP]
        refine ⟨h1.ext hE3,by rw [hdl]; exact sl_of_own ho3,fun hne => ?_⟩
        have := own_ge ho3 (own_nil ho3 (by have := List.length_pos_iff.2 hne; omega))
        omega
    · have h2' : ¬ (s.length : Int).tmod 2 = 0 := by rw [Int.tmod_eq_emod_of_nonneg (by omega)]; omega
      simp [hq,hE,h2']
      refine FN.mono (smust_f w1) ?_
      rintro _ w2 ⟨rfl,rfl⟩
      simp
      refine ⟨hM1,?_⟩
      rw [hQ,show unhexP s = none by simp [unhexP,hd,h2]]
      trivial
def bitsP : Tx → Option (List Bool)
  | [] => some []
  | c :: r => if c = 48 ∨ c = 49 then match bitsP r with
    | none => none
    | some l => some (decide (c = 49) :: l)
  else none
def truthsP (s : Tx) : Option (List Bool) := if s = [45] then some [] else if s = [] then none else bitsP s
def truQ (l : List Tx) : Option (List Bool × List Tx) := wordP truthsP l
set_option maxHeartbeats 4000000 in
theorem rtruths_c {w : World} {rb b : Nat} {l : List Tx} (h : Rw w rb b l) (hr : rb < w.heap.size) (hl : l.length ≤ 1000000) (hls : ∀ s ∈ l, s.length ≤ 1000000) :
    FN Tryz.prog 81 [ptr b] w fun e w' => RdR w w' rb b ((truQ l).map fun x => (x.1.map Value.bool,x.2)) e := by
  refine FN_enter Tryz.func81 rfl rfl (by kernel_rfl) ?_
  have hb := h.lt
  simp
  refine FN.mono (wnext_c h hl) ?_
  rintro _ w1 ⟨hM1,hp⟩
  cases l with
  | nil =>
    obtain rfl : _ = _ := hp
    simp
    exact ⟨hM1,by simp [truQ,wordP]⟩
  | cons s r =>
    obtain ⟨rfl,h1⟩ := hp
    have hsl := hls s (by simp)
    have s1 := hM1.size
    have hQ : truQ (s :: r) = match truthsP s with | none => none | some x => some (x, r) := by
      simp only [truQ,wordP]
      cases truthsP s <;> rfl
    by_cases hd : s = [45]
    · have hq : (s == [45]) = true := by rw [hd]; rfl
      simp [hq]
      refine ⟨hM1,?_⟩
      rw [hQ,show truthsP s = some [] by simp [truthsP,hd]]
      exact ⟨h1,_,rfl,Sl.nil _ _ _,fun h => absurd rfl h⟩
    have hq : (s == [45]) = false := by simpa using hd
    by_cases he : s = []
    · have hE : s.isEmpty = true := by rw [he]; rfl
      simp [hq,hE]
      refine FN.mono (smust_f w1) ?_
      rintro _ w2 ⟨rfl,rfl⟩
      simp
      refine ⟨hM1,?_⟩
      rw [hQ,show truthsP s = none by simp [truthsP,he]]
      trivial
    have hE : s.isEmpty = false := by
      cases s with
      | nil => exact absurd rfl he
      | cons _ _ => rfl
    have hU : truthsP s = bitsP s := by unfold truthsP; rw [if_neg hd,if_neg he]
    simp [hq,hE]
    refine FN.mono (smust_t w1) ?_
    rintro _ w2 ⟨⟨u,rfl⟩,rfl⟩
    have hcv := Lib.run_convert_string_bytes (P := Tryz.prog) (u := .string) w2 9 27 5 ⟨s.toArray⟩ (by simp) (by simp) (by simp)
    have hEv : Ext w2 (Lib.bytesWorld w2 5 ⟨s.toArray⟩) := ext_below (Lib.bytesWorld_below _ _ _)
    have hcl : ∀ j (hj : j < s.length), (Lib.bytesWorld w2 5 ⟨s.toArray⟩).cell? ⟨w2.heap.size, j, none⟩ = some (u8 s[j].toNat) := fun j hj => by
      have := Lib.bytesWorld_cell w2 5 ⟨s.toArray⟩ j (by simpa using hj)
      rw [this]
      simp [hj]
    simp [hcv]
    obtain ⟨cp,hcp⟩ : ∃ cp,grownCap w2 s.length 0 5 = cp := ⟨_,rfl⟩
    obtain ⟨B,hB⟩ : ∃ B,w2.heap.size = B := ⟨_,rfl⟩
    rw [hB] at hcl ⊢
    generalize Lib.bytesWorld w2 5 ⟨s.toArray⟩ = wv at *
    rw [hcp]
    have svz := hEv.size
    refine WC_loop (fun m ρ ds w' => ∃ (i : Nat) (v : Value) (dn : List Bool), m = s.length - i ∧ i ≤ s.length ∧ ρ 16 = .slice (some ⟨B, 0, none⟩) s.length cp ∧ ρ 17 = i64 s.length ∧ ρ 18 = i64 i ∧ ρ 2 = v ∧ ds = [] ∧ Ext wv w' ∧ w'.ownsRow wv.heap.size 4 1 v i (dn.map Value.bool) ∧ dn.length = i ∧ bitsP s = (bitsP (s.drop i)).map (dn ++ ·)) s.length
      ⟨0,_,[],by simp,by simp,by simp,by simp,by simp,by simp,rfl,Ext.refl _,own_nothing _ _ _ _,rfl,by simp⟩ ?_
    rintro m ρ ds w3 ⟨i,v,dn,rfl,hi,e16,e17,e18,e2,rfl,hE3,ho3,hdl,hP⟩
    by_cases hlt : i < s.length
    · have hlt' : (i : Int) < s.length := by omega
      have d := hE3.cell_eq (hcl i hlt)
      have hdr : s.drop i = s[i] :: s.drop (i + 1) := List.drop_eq_getElem_cons hlt
      rw [hdr] at hP
      have hbp : ∀ (c : UInt8) r,bitsP (c :: r) = if c = 48 ∨ c = 49 then match bitsP r with | none => none | some l => some (decide (c = 49) :: l) else none := fun c r => by rw [bitsP]
      rw [hbp] at hP
      have mid : ∀ (bv : Bool), (s[i] = 48 ∨ s[i] = 49) → bv = decide (s[i] = 49) → ∀ (w4 : World), Ext wv w4 → w4.ownsRow wv.heap.size 4 1 v i (dn.map Value.bool) → ∃ v' w10, (Builtin.append_ #[43, 43] 43 #[v, .slice (some ⟨w4.heap.size, 0, none⟩) 1 1]).run Tryz.prog (w4.alloc (.cells #[.bool bv] 4)) = .ok v' w10 ∧ w10.ownsRow wv.heap.size 4 1 v' (i + 1) ((dn ++ [bv]).map Value.bool) ∧ Ext wv w10 ∧ bitsP s = (bitsP (s.drop (i + 1))).map ((dn ++ [bv]) ++ ·) := by
        intro bv hc hbv w4 hE4 ho4
        have hE9 : Ext w4 (w4.alloc (.cells #[.bool bv] 4)) := (Ext.refl _).alloc _
        have sl9 : Sl (w4.alloc (.cells #[.bool bv] 4)) 1 (.slice (some ⟨w4.heap.size,0,none⟩) 1 1) 1 [.bool bv] := Sl.made w4 [.bool bv] 4 1 1 rfl
        have z4 := hE4.size
        have z9 := hE9.size
        obtain ⟨v',w10,hr,ho10,hM10,-⟩ := append_own (P := Tryz.prog) (t := 43) (ty := 43) (e := 4) (s := 1) (by simp) (by simp) (by kernel_rfl) (own_ext ho4 hE9) sl9 (fun u hu => by simp at hu; rw [hu]; rfl) (by omega) (by omega)
        refine ⟨v',w10,hr,by rw [List.map_append]; exact ho10,((((hE4.trans hE9).mod (S := fun k => wv.heap.size ≤ k)).trans (hM10.weaken fun k hk => by have := own_ge ho4 hk.1; omega))).ext fun _ h => h,?_⟩
        rw [hP,if_pos hc,hbv]
        cases bitsP (s.drop (i + 1)) with
        | none => rfl
        | some l =>
          show some (dn ++ (decide (s[i] = 49) :: l)) = some ((dn ++ [decide (s[i] = 49)]) ++ l)
          rw [List.append_assoc]; rfl
      have hwi : IntKind.i64.wrap ((i : Int) + 1) = i + 1 := wrap64 _ (by omega) (by omega)
      by_cases c0 : s[i] = 48
      · have n0 : (s[i].toNat : Int) = 48 := by rw [c0]; rfl
        simp [e16,e17,e18,hlt',d,n0]
        refine FN.mono (smust_t w3) ?_
        rintro _ w4 ⟨⟨u4,rfl⟩,rfl⟩
        obtain ⟨v',w10,hr,ho10,hE10,hP10⟩ := mid false (.inl c0) (by rw [c0]; rfl) w4 hE3 ho3
        simp [e2,e16,e17,e18,hr]
        exact ⟨s.length - (i + 1),by omega,i + 1,rfl,by omega,by rw [hwi]; omega,hE10,dn ++ [false],ho10,by simp [hdl],hP10⟩
      · have n0 : ¬ (s[i].toNat : Int) = 48 := u8ne c0
        by_cases c1 : s[i] = 49
        · have n1 : (s[i].toNat : Int) = 49 := by rw [c1]; rfl
          simp [e16,e17,e18,hlt',d,n1]
          refine FN.mono (smust_t w3) ?_
          rintro _ w4 ⟨⟨u4,rfl⟩,rfl⟩
          obtain ⟨v',w10,hr,ho10,hE10,hP10⟩ := mid true (.inr c1) (by rw [c1]; rfl) w4 hE3 ho3
          simp [e2,e16,e17,e18,hr]
          exact ⟨s.length - (i + 1),by omega,i + 1,rfl,by omega,by rw [hwi]; omega,hE10,dn ++ [true],ho10,by simp [hdl],hP10⟩
        · have n1 : ¬ (s[i].toNat : Int) = 49 := u8ne c1
          simp [e16,e17,e18,hlt',d,n0,n1]
          refine FN.mono (smust_f w3) ?_
          rintro _ w4 ⟨rfl,rfl⟩
          simp
          refine ⟨hM1.trans (hEv.trans hE3).mod,?_⟩
          rw [hQ,hU,hP,if_neg (by simp [c0,c1])]
          trivial
    · have hi' : i = s.length := by omega
      have hlt' : ¬ (i : Int) < s.length := by omega
      rw [show s.drop i = [] from List.drop_eq_nil_of_le (by omega)] at hP
      obtain ⟨va,vc,hv⟩ := own_val ho3
      simp [e17,e18,e2,hlt']
      refine ⟨hM1.trans (hEv.trans hE3).mod,?_⟩
      rw [hQ,hU,hP]
      simp [bitsP]
      refine ⟨h1.ext (hEv.trans hE3),by rw [hdl]; exact sl_of_own ho3,fun hne => ?_⟩
      have := own_ge ho3 (own_nil ho3 (by have := List.length_pos_iff.2 hne; omega))
      omega
end Go.Proofs
