/-
  Contracts of the functions that the law reaches,step by step.
-/
import Derived.Test.YtmmneeomcefgbaaGreatDoorScD
namespace Go.Proofs
open Pk
set_option maxRecDepth 10000
attribute [local simp] beq_dec bne_dec
/-! ### An endpoint,read -/
theorem Rw.of_mod {w w' : World} {rb b : Nat} {l : List Tx} (h : Rw w rb b l) (hr : rb < w.heap.size) (hM : Mod (fun k => w.heap.size ≤ k) w w') : Rw w' rb b l := h.mod hM (by have := h.lt; omega) (by omega)
/-- A reading that also lays blocks; what lay ahead of it is as it was,but for the reader. -/
theorem rpoint_c {w : World} {rb b : Nat} {l : List Tx} (h : Rw w rb b l) (hr : rb < w.heap.size) (hl : l.length ≤ 1000000) (hls : ∀ s ∈ l, s.length ≤ 1000000) (hG : Gl w) (h8 : 8 ≤ b) (h9 : 8 ≤ w.heap.size) :
    FN Tryz.prog 118 [ptr b] w fun e w' => RdS (fun x : Nat × Nat => eptV x.1 x.2) w w' rb b (wordP parseP l) e := by
  refine FN_enter Tryz.func118 rfl rfl (by kernel_rfl) ?_
  have hE1 : Ext w (w.alloc (.cells #[u32 0,u32 0] 26)) := (Ext.refl w).alloc _
  have o1 : Blk (w.alloc (.cells #[u32 0,u32 0] 26)) w.heap.size [u32 0,u32 0] := Blk.new w _ _
  have z1 : (w.alloc (.cells #[u32 0,u32 0] 26)).heap.size = w.heap.size + 1 := by simp
  have hb := h.lt
  simp
  obtain ⟨a,ha⟩ : ∃ a,w.heap.size = a := ⟨_,rfl⟩
  rw [ha] at o1 z1 hb hr h9 ⊢
  generalize (w.alloc (.cells #[u32 0,u32 0] 26)) = w1 at *
  refine FN.mono (wnext_c (h.ext hE1) hl) ?_
  rintro _ w2 ⟨hM2,hp⟩
  cases l with
  | nil =>
    obtain rfl : _ = _ := hp
    simp
    exact ⟨hE1.mod.trans hM2,rfl⟩
  | cons s r =>
    obtain ⟨rfl,h2⟩ := hp
    have o2 := o1.mod hM2 (by omega)
    have hG2 := (hG.ext hE1).mod hM2 fun k hk => by omega
    have s2 := hM2.size
    simp
    refine FN.mono (parse_c s (hls s (by simp)) hG2 (by omega)) ?_
    rintro e3 w3 ⟨hE3,hp3⟩
    have o3 := o2.ext hE3
    have h3 := h2.ext hE3
    have hM3 : Mod (fun k => k = b) w w3 := (hE1.mod.trans hM2).trans hE3.mod
    rcases ho : parseP s with _ | ⟨n, m⟩
    · rw [ho] at hp3
      obtain ⟨c,hc,rfl⟩ := hp3
      simp [hc]
      have hE4 : Ext w3 (w3.alloc (.cells #[u32 0,u32 0] 26)) := (Ext.refl _).alloc _
      refine FN.mono (smust_f ((w3.alloc (.cells #[u32 0,u32 0] 26)))) ?_
      rintro _ w4 ⟨rfl,rfl⟩
      simp
      exact ⟨hM3.trans hE4.mod,by simp [wordP,ho]⟩
    · rw [ho] at hp3
      obtain rfl : e3 = _ := hp3
      simp
      have hE4 : Ext w3 (w3.alloc (.cells #[u32 n,u32 m] 26)) := (Ext.refl _).alloc _
      have j4 : Blk (w3.alloc (.cells #[u32 n,u32 m] 26)) w3.heap.size [u32 n,u32 m] := Blk.new w3 _ _
      have o4 := o3.ext hE4
      have h4 := h3.ext hE4
      have s3 := hE3.size
      generalize (w3.alloc (.cells #[u32 n,u32 m] 26)) = w4 at *
      refine FN.mono (smust_t w4) ?_
      rintro _ w5 ⟨⟨u,rfl⟩,rfl⟩
      simp [j4.cell 0 _ rfl,j4.cell 1 _ rfl,o4.cell 0 _ rfl,o4.cell 1 _ rfl,o4.thaw,cell_setCell]
      have hM5 : Mod (fun k => k = a) w5 ((w5.setCell ⟨a,0,none⟩ (u32 n)).setCell ⟨a,1,none⟩ (u32 m)) := ((Mod.refl _ w5).setC 0 _).setC 1 _
      refine ⟨(hM3.trans hE4.mod).trans' hM5 fun i hi => .inr (by omega),?_⟩
      simp only [wordP,ho]
      exact ⟨trivial,h4.mod hM5 (by omega) (by omega)⟩
/-! ### Contacts and steps,read -/
def nodeQ : List Tx → Option (Nat × List Tx) := wordP fun s => numP s 4294967295
def longQ : List Tx → Option (Nat × List Tx) := wordP fun s => numP s 9223372036854775807
def smallQ : List Tx → Option (Nat × List Tx) := wordP fun s => numP s 255
theorem wordP_len {α : Type} {f : Tx → Option α} {l r : List Tx} {x : α} {k : Nat} (h : wordP f l = some (x, r)) (hl : l.length ≤ k) : r.length ≤ k := by
  cases l with
  | nil => simp [wordP] at h
  | cons s t =>
    simp only [wordP] at h
    split at h
    · cases h
    · simp at h
      obtain ⟨-,rfl⟩ := h
      simp at hl; omega
theorem wordP_sub {α : Type} {f : Tx → Option α} {l r : List Tx} {x : α} {k : Nat} (h : wordP f l = some (x, r)) (hl : ∀ s ∈ l, s.length ≤ k) : ∀ s ∈ r, s.length ≤ k := by
  cases l with
  | nil => simp [wordP] at h
  | cons s t =>
    simp only [wordP] at h
    split at h
    · cases h
    · simp at h
      obtain ⟨-,rfl⟩ := h
      exact fun u hu => hl u (by simp [hu])
theorem wordP_le {f : Tx → Option Nat} {l r : List Tx} {x k : Nat} (hf : ∀ s n, f s = some n → n ≤ k) (h : wordP f l = some (x, r)) : x ≤ k := by
  cases l with
  | nil => simp [wordP] at h
  | cons s t =>
    simp only [wordP] at h
    split at h
    · cases h
    · rename_i y hy
      simp at h
      obtain ⟨rfl,-⟩ := h
      exact hf s _ hy
theorem nodeQ_le {l r : List Tx} {x : Nat} (h : nodeQ l = some (x,r)) : x ≤ 4294967295 := wordP_le (fun _ _ h => numP_le h) h
theorem longQ_le {l r : List Tx} {x : Nat} (h : longQ l = some (x,r)) : x ≤ 9223372036854775807 := wordP_le (fun _ _ h => numP_le h) h
/-- A contact; a step. -/
structure Ctc where
  fr : Int
  to' : Int
  sf : Int
  su : Int
  rate : Int
structure Stp where
  fr : Int
  to' : Int
  at' : Int
  tk : Int
def ctQ (l : List Tx) : Option (Ctc × List Tx) := (nodeQ l).bind fun x1 => (nodeQ x1.2).bind fun x2 => (longQ x2.2).bind fun x3 => (longQ x3.2).bind fun x4 => (longQ x4.2).bind fun x5 => some (⟨x1.1,x2.1,x3.1,x4.1,x5.1⟩,x5.2)
def stQ (l : List Tx) : Option (Stp × List Tx) := (nodeQ l).bind fun x1 => (nodeQ x1.2).bind fun x2 => (longQ x2.2).bind fun x3 => (longQ x3.2).bind fun x4 => some (⟨x1.1,x2.1,x3.1,x4.1⟩,x4.2)
set_option maxHeartbeats 2000000 in
theorem rcontact_c {w : World} {rb b : Nat} {l0 : List Tx} (H0 : Rw w rb b l0) (hr : rb < w.heap.size) (HL0 : l0.length ≤ 1000000) : FN Tryz.prog 58 [ptr b] w fun e w' => RdS (fun c : Ctc => .agg #[u32 c.fr, u32 c.to', u64 c.sf, u64 c.su, u64 c.rate]) w w' rb b (ctQ l0) e := by
  refine FN_enter Tryz.func58 rfl rfl (by kernel_rfl) ?_
  have hE1 : Ext w (w.alloc (.cells #[u32 0,u32 0,u64 0,u64 0,u64 0] 33)) := (Ext.refl w).alloc _
  have T0 : Blk (w.alloc (.cells #[u32 0,u32 0,u64 0,u64 0,u64 0] 33)) w.heap.size [u32 0,u32 0,u64 0,u64 0,u64 0] := Blk.new w _ _
  have hb := H0.lt
  have K0 := H0.ext hE1
  simp
  obtain ⟨a,ha⟩ : ∃ a,w.heap.size = a := ⟨_,rfl⟩
  rw [ha] at T0 hb hr ⊢
  have A0 : Mod (fun k => k = b) w (w.alloc (.cells #[u32 0,u32 0,u64 0,u64 0,u64 0] 33)) := hE1.mod
  generalize (w.alloc (.cells #[u32 0,u32 0,u64 0,u64 0,u64 0] 33)) = w0 at *
  refine FN.mono (wnode_c K0 HL0) ?_
  rintro e1 w1 ⟨M1,p1⟩
  rcases o1 : nodeQ l0 with _ | ⟨x1, l1⟩
  · rw [show wordP _ l0 = none from o1] at p1
    obtain rfl : e1 = _ := p1
    simp
    exact ⟨A0.trans M1,by simp [ctQ,o1]⟩
  rw [show wordP _ l0 = some (x1,l1) from o1] at p1
  obtain ⟨rfl,K1⟩ := p1
  have HL1 := wordP_len o1 HL0
  have T1 := T0.mod M1 (by omega)
  have A1 := A0.trans M1
  simp
  refine FN.mono (wnode_c K1 HL1) ?_
  rintro e2 w2 ⟨M2,p2⟩
  rcases o2 : nodeQ l1 with _ | ⟨x2, l2⟩
  · rw [show wordP _ l1 = none from o2] at p2
    obtain rfl : e2 = _ := p2
    simp
    exact ⟨A1.trans M2,by simp [ctQ,o1,o2]⟩
  rw [show wordP _ l1 = some (x2,l2) from o2] at p2
  obtain ⟨rfl,K2⟩ := p2
  have HL2 := wordP_len o2 HL1
  have T2 := T1.mod M2 (by omega)
  have A2 := A1.trans M2
  have S2 : Mod (fun k => k = a) w2 ((w2.setCell ⟨a,0,none⟩ (u32 x1)).setCell ⟨a,1,none⟩ (u32 x2)) := ((Mod.refl _ _).setC 0 _).setC 1 _
  have T2s : Blk ((w2.setCell ⟨a,0,none⟩ (u32 x1)).setCell ⟨a,1,none⟩ (u32 x2)) a [u32 x1,u32 x2,u64 0,u64 0,u64 0] := ((T2.set 0 (u32 x1)).set 1 (u32 x2))
  have K2s := K2.mod S2 (by omega) (by omega)
  have A2s := A2.trans' S2 fun i hi => .inr (by omega)
  simp [T2.cell 0 _ rfl,T2.cell 1 _ rfl,T2.thaw,cell_setCell]
  generalize ((w2.setCell ⟨a,0,none⟩ (u32 x1)).setCell ⟨a,1,none⟩ (u32 x2)) = w2s at *
  refine FN.mono (wlong_c K2s HL2) ?_
  rintro e3 w3 ⟨M3,p3⟩
  rcases o3 : longQ l2 with _ | ⟨x3, l3⟩
  · rw [show wordP _ l2 = none from o3] at p3
    obtain rfl : e3 = _ := p3
    simp
    exact ⟨A2s.trans M3,by simp [ctQ,o1,o2,o3]⟩
  rw [show wordP _ l2 = some (x3,l3) from o3] at p3
  obtain ⟨rfl,K3⟩ := p3
  have HL3 := wordP_len o3 HL2
  have T3 := T2s.mod M3 (by omega)
  have A3 := A2s.trans M3
  simp
  refine FN.mono (wlong_c K3 HL3) ?_
  rintro e4 w4 ⟨M4,p4⟩
  rcases o4 : longQ l3 with _ | ⟨x4, l4⟩
  · rw [show wordP _ l3 = none from o4] at p4
    obtain rfl : e4 = _ := p4
    simp
    exact ⟨A3.trans M4,by simp [ctQ,o1,o2,o3,o4]⟩
  rw [show wordP _ l3 = some (x4,l4) from o4] at p4
  obtain ⟨rfl,K4⟩ := p4
  have HL4 := wordP_len o4 HL3
  have T4 := T3.mod M4 (by omega)
  have A4 := A3.trans M4
  have S4 : Mod (fun k => k = a) w4 ((w4.setCell ⟨a,2,none⟩ (u64 x3)).setCell ⟨a,3,none⟩ (u64 x4)) := ((Mod.refl _ _).setC 2 _).setC 3 _
  have T4s : Blk ((w4.setCell ⟨a,2,none⟩ (u64 x3)).setCell ⟨a,3,none⟩ (u64 x4)) a [u32 x1,u32 x2,u64 x3,u64 x4,u64 0] := ((T4.set 2 (u64 x3)).set 3 (u64 x4))
  have K4s := K4.mod S4 (by omega) (by omega)
  have A4s := A4.trans' S4 fun i hi => .inr (by omega)
  simp [T4.cell 2 _ rfl,T4.cell 3 _ rfl,T4.thaw,cell_setCell]
  generalize ((w4.setCell ⟨a,2,none⟩ (u64 x3)).setCell ⟨a,3,none⟩ (u64 x4)) = w4s at *
  refine FN.mono (wlong_c K4s HL4) ?_
  rintro e5 w5 ⟨M5,p5⟩
  rcases o5 : longQ l4 with _ | ⟨x5, l5⟩
  · rw [show wordP _ l4 = none from o5] at p5
    obtain rfl : e5 = _ := p5
    simp
    exact ⟨A4s.trans M5,by simp [ctQ,o1,o2,o3,o4,o5]⟩
  rw [show wordP _ l4 = some (x5,l5) from o5] at p5
  obtain ⟨rfl,K5⟩ := p5
  have HL5 := wordP_len o5 HL4
  have T5 := T4s.mod M5 (by omega)
  have A5 := A4s.trans M5
  have S5 : Mod (fun k => k = a) w5 ((((((w5.setCell ⟨a,4,none⟩ (u64 x5)).setCell ⟨a,0,none⟩ (u32 x1)).setCell ⟨a,1,none⟩ (u32 x2)).setCell ⟨a,2,none⟩ (u64 x3)).setCell ⟨a,3,none⟩ (u64 x4)).setCell ⟨a,4,none⟩ (u64 x5)) := ((((((Mod.refl _ _).setC 4 _).setC 0 _).setC 1 _).setC 2 _).setC 3 _).setC 4 _
  have K5s := K5.mod S5 (by omega) (by omega)
  have A5s := A5.trans' S5 fun i hi => .inr (by omega)
  simp [T5.cell 0 _ rfl,T5.cell 1 _ rfl,T5.cell 2 _ rfl,T5.cell 3 _ rfl,T5.cell 4 _ rfl,T5.thaw,cell_setCell]
  refine ⟨A5s,?_⟩
  rw [show ctQ l0 = some (⟨x1,x2,x3,x4,x5⟩,l5) by simp [ctQ,o1,o2,o3,o4,o5]]
  exact ⟨rfl,K5s⟩

set_option maxHeartbeats 2000000 in
theorem rstep_c {w : World} {rb b : Nat} {l0 : List Tx} (H0 : Rw w rb b l0) (hr : rb < w.heap.size) (HL0 : l0.length ≤ 1000000) : FN Tryz.prog 62 [ptr b] w fun e w' => RdS (fun s : Stp => .agg #[u32 s.fr, u32 s.to', u64 s.at', u64 s.tk]) w w' rb b (stQ l0) e := by
  refine FN_enter Tryz.func62 rfl rfl (by kernel_rfl) ?_
  have hE1 : Ext w (w.alloc (.cells #[u32 0,u32 0,u64 0,u64 0] 35)) := (Ext.refl w).alloc _
  have T0 : Blk (w.alloc (.cells #[u32 0,u32 0,u64 0,u64 0] 35)) w.heap.size [u32 0,u32 0,u64 0,u64 0] := Blk.new w _ _
  have hb := H0.lt
  have K0 := H0.ext hE1
  simp
  obtain ⟨a,ha⟩ : ∃ a,w.heap.size = a := ⟨_,rfl⟩
  rw [ha] at T0 hb hr ⊢
  have A0 : Mod (fun k => k = b) w (w.alloc (.cells #[u32 0,u32 0,u64 0,u64 0] 35)) := hE1.mod
  generalize (w.alloc (.cells #[u32 0,u32 0,u64 0,u64 0] 35)) = w0 at *
  refine FN.mono (wnode_c K0 HL0) ?_
  rintro e1 w1 ⟨M1,p1⟩
  rcases o1 : nodeQ l0 with _ | ⟨x1, l1⟩
  · rw [show wordP _ l0 = none from o1] at p1
    obtain rfl : e1 = _ := p1
    simp
    exact ⟨A0.trans M1,by simp [stQ,o1]⟩
  rw [show wordP _ l0 = some (x1,l1) from o1] at p1
  obtain ⟨rfl,K1⟩ := p1
  have HL1 := wordP_len o1 HL0
  have T1 := T0.mod M1 (by omega)
  have A1 := A0.trans M1
  simp
  refine FN.mono (wnode_c K1 HL1) ?_
  rintro e2 w2 ⟨M2,p2⟩
  rcases o2 : nodeQ l1 with _ | ⟨x2, l2⟩
  · rw [show wordP _ l1 = none from o2] at p2
    obtain rfl : e2 = _ := p2
    simp
    exact ⟨A1.trans M2,by simp [stQ,o1,o2]⟩
  rw [show wordP _ l1 = some (x2,l2) from o2] at p2
  obtain ⟨rfl,K2⟩ := p2
  have HL2 := wordP_len o2 HL1
  have T2 := T1.mod M2 (by omega)
  have A2 := A1.trans M2
  have S2 : Mod (fun k => k = a) w2 ((w2.setCell ⟨a,0,none⟩ (u32 x1)).setCell ⟨a,1,none⟩ (u32 x2)) := ((Mod.refl _ _).setC 0 _).setC 1 _
  have T2s : Blk ((w2.setCell ⟨a,0,none⟩ (u32 x1)).setCell ⟨a,1,none⟩ (u32 x2)) a [u32 x1,u32 x2,u64 0,u64 0] := ((T2.set 0 (u32 x1)).set 1 (u32 x2))
  have K2s := K2.mod S2 (by omega) (by omega)
  have A2s := A2.trans' S2 fun i hi => .inr (by omega)
  simp [T2.cell 0 _ rfl,T2.cell 1 _ rfl,T2.thaw,cell_setCell]
  generalize ((w2.setCell ⟨a,0,none⟩ (u32 x1)).setCell ⟨a,1,none⟩ (u32 x2)) = w2s at *
  refine FN.mono (wlong_c K2s HL2) ?_
  rintro e3 w3 ⟨M3,p3⟩
  rcases o3 : longQ l2 with _ | ⟨x3, l3⟩
  · rw [show wordP _ l2 = none from o3] at p3
    obtain rfl : e3 = _ := p3
    simp
    exact ⟨A2s.trans M3,by simp [stQ,o1,o2,o3]⟩
  rw [show wordP _ l2 = some (x3,l3) from o3] at p3
  obtain ⟨rfl,K3⟩ := p3
  have HL3 := wordP_len o3 HL2
  have T3 := T2s.mod M3 (by omega)
  have A3 := A2s.trans M3
  simp
  refine FN.mono (wlong_c K3 HL3) ?_
  rintro e4 w4 ⟨M4,p4⟩
  rcases o4 : longQ l3 with _ | ⟨x4, l4⟩
  · rw [show wordP _ l3 = none from o4] at p4
    obtain rfl : e4 = _ := p4
    simp
    exact ⟨A3.trans M4,by simp [stQ,o1,o2,o3,o4]⟩
  rw [show wordP _ l3 = some (x4,l4) from o4] at p4
  obtain ⟨rfl,K4⟩ := p4
  have HL4 := wordP_len o4 HL3
  have T4 := T3.mod M4 (by omega)
  have A4 := A3.trans M4
  have S4 : Mod (fun k => k = a) w4 ((((((w4.setCell ⟨a,2,none⟩ (u64 x3)).setCell ⟨a,3,none⟩ (u64 x4)).setCell ⟨a,0,none⟩ (u32 x1)).setCell ⟨a,1,none⟩ (u32 x2)).setCell ⟨a,2,none⟩ (u64 x3)).setCell ⟨a,3,none⟩ (u64 x4)) := ((((((Mod.refl _ _).setC 2 _).setC 3 _).setC 0 _).setC 1 _).setC 2 _).setC 3 _
  have K4s := K4.mod S4 (by omega) (by omega)
  have A4s := A4.trans' S4 fun i hi => .inr (by omega)
  simp [T4.cell 0 _ rfl,T4.cell 1 _ rfl,T4.cell 2 _ rfl,T4.cell 3 _ rfl,T4.thaw,cell_setCell]
  refine ⟨A4s,?_⟩
  rw [show stQ l0 = some (⟨x1,x2,x3,x4⟩,l4) by simp [stQ,o1,o2,o3,o4]]
  exact ⟨rfl,K4s⟩
end Go.Proofs
