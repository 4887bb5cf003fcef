/-
 Contracts of the functions that the law reaches,step by step.
-/
import Derived.Test.YtmmneeomcefgbaaGreatDoorAmB
import Derived.RecoverIn
namespace Go.Proofs
open Pk
set_option maxRecDepth 10000
theorem wrap8u (x : Int) (h0 : 0 ≤ x) (h1 : x ≤ 255) : IntKind.u8.wrap x = x := by simp [IntKind.wrap,IntKind.signed,IntKind.bits]; omega
def RdR (w0 w w' : World) (b rb : Nat) (o : Option (Rec × List It)) (e : Ending) : Prop :=
 Mod (fun k => k = b ∨ k = rb) w w' ∧ match o with | none => e = .panicked (panV 180) | some (r,l) => (∃ u,e = .returned u) ∧ Rd w0 w' b l ∧ Blk w' rb (recC r)
def rdAsk (r : Rec) (l : List It) : Option (Rec × List It) := (upI l 4294967295).bind fun p1 => (upI p1.2 4294967295).bind fun p2 => (upI p2.2 4294967295).bind fun p3 => some ({ r with num := p1.1,node := p2.1,reg := p3.1 },p3.2)
set_option maxHeartbeats 1000000 in
theorem rdAsk_c {w0 w : World} {b rb : Nat} {l : List It} {r : Rec} (h : Rd w0 w b l) (hR : Blk w rb (recC r)) (hrb : w0.heap.size ≤ rb) (hne : b ≠ rb) : FN Tryz.prog 204 [ptr b, ptr rb] w fun e w' => RdR w0 w w' b rb (rdAsk r l) e := by
 refine FN_enter Tryz.func204 rfl rfl (by kernel_rfl) ?_
 simp
 refine FN.mono (rdUpu64 h 4294967295 fun x h0 h1 => wrap64u x h0 (by omega)) ?_
 rintro e1 w1 ⟨M1,hp⟩
 have MM1 : Mod (fun j => j = b ∨ j = rb) w w1 := Mod.trans (Mod.refl _ _) (M1.weaken fun j hj => .inl hj)
 have R1 := Blk.mod hR M1 (by omega)
 rcases ho1 : upI l 4294967295 with _ | ⟨x1, l1⟩
 ·rw [ho1] at hp
  obtain rfl : e1 = _ := hp
  have hn : rdAsk r l = none := by simp only [rdAsk,ho1,Option.bind_none]
  simp
  rw [hn]
  exact ⟨MM1,rfl⟩
 rw [ho1] at hp
 obtain ⟨rfl,H1⟩ := hp
 simp
 refine FN.mono (rd_node H1) ?_
 rintro e2 w2 ⟨M2,hp⟩
 have MM2 : Mod (fun j => j = b ∨ j = rb) w w2 := Mod.trans MM1 (M2.weaken fun j hj => .inl hj)
 have R2 := Blk.mod R1 M2 (by omega)
 rcases ho2 : upI l1 4294967295 with _ | ⟨x2, l2⟩
 ·rw [ho2] at hp
  obtain rfl : e2 = _ := hp
  have hn : rdAsk r l = none := by simp only [rdAsk,ho1,ho2,Option.bind_some,Option.bind_none]
  simp
  rw [hn]
  exact ⟨MM2,rfl⟩
 rw [ho2] at hp
 obtain ⟨rfl,H2⟩ := hp
 simp
 refine FN.mono (rd_node H2) ?_
 rintro e3 w3 ⟨M3,hp⟩
 have MM3 : Mod (fun j => j = b ∨ j = rb) w w3 := Mod.trans MM2 (M3.weaken fun j hj => .inl hj)
 have R3 := Blk.mod R2 M3 (by omega)
 rcases ho3 : upI l2 4294967295 with _ | ⟨x3, l3⟩
 ·rw [ho3] at hp
  obtain rfl : e3 = _ := hp
  have hn : rdAsk r l = none := by simp only [rdAsk,ho1,ho2,ho3,Option.bind_some,Option.bind_none]
  simp
  rw [hn]
  exact ⟨MM3,rfl⟩
 rw [ho3] at hp
 obtain ⟨rfl,H3⟩ := hp
 simp [R3.cell 8 _ rfl,R3.cell 9 _ rfl,R3.cell 10 _ rfl,R3.thaw,cell_setCell]
 have M4 : Mod (fun j => j = rb) w3 (((w3.setCell ⟨rb,8,none⟩ (u64 x1)).setCell ⟨rb,9,none⟩ (u32 x2)).setCell ⟨rb,10,none⟩ (u32 x3)) := ((((Mod.refl _ _).setC 8 _).setC 9 _).setC 10 _)
 have R4 : Blk (((w3.setCell ⟨rb, 8, none⟩ (u64 x1)).setCell ⟨rb, 9, none⟩ (u32 x2)).setCell ⟨rb, 10, none⟩ (u32 x3)) rb (recC { r with num := x1, node := x2, reg := x3 }) := by
  have := (((R3.set 8 (u64 x1)).set 9 (u32 x2)).set 10 (u32 x3))
  simp only [List.set_cons_zero,List.set_cons_succ] at this
  exact this
 have H4 := H3.ext' (M4.weaken fun j hj => by rw [hj]; exact ⟨hrb,fun e => hne e.symm⟩)
 have MM4 : Mod (fun j => j = b ∨ j = rb) w (((w3.setCell ⟨rb,8,none⟩ (u64 x1)).setCell ⟨rb,9,none⟩ (u32 x2)).setCell ⟨rb,10,none⟩ (u32 x3)) := Mod.trans MM3 (M4.weaken fun j hj => .inr hj)
 have hs : rdAsk r l = some ({ r with num := x1,node := x2,reg := x3 },l3) := by simp only [rdAsk,ho1,ho2,ho3,Option.bind_some]
 rw [hs]
 exact ⟨MM4,⟨_,rfl⟩,H4,R4⟩
def rdTell (r : Rec) (l : List It) : Option (Rec × List It) := (upI l 4294967295).bind fun p1 => (upI p1.2 4294967295).bind fun p2 => (upI p2.2 4294967295).bind fun p3 => (yesI p3.2).bind fun p4 => (upI p4.2 4611686018427387903).bind fun p5 => some ({ r with num := p1.1,node := p2.1,reg := p3.1,yes := p4.1,til := p5.1 },p5.2)
set_option maxHeartbeats 1000000 in
theorem rdTell_c {w0 w : World} {b rb : Nat} {l : List It} {r : Rec} (h : Rd w0 w b l) (hR : Blk w rb (recC r)) (hrb : w0.heap.size ≤ rb) (hne : b ≠ rb) : FN Tryz.prog 210 [ptr b, ptr rb] w fun e w' => RdR w0 w w' b rb (rdTell r l) e := by
 refine FN_enter Tryz.func210 rfl rfl (by kernel_rfl) ?_
 simp
 refine FN.mono (rdUpu64 h 4294967295 fun x h0 h1 => wrap64u x h0 (by omega)) ?_
 rintro e1 w1 ⟨M1,hp⟩
 have MM1 : Mod (fun j => j = b ∨ j = rb) w w1 := Mod.trans (Mod.refl _ _) (M1.weaken fun j hj => .inl hj)
 have R1 := Blk.mod hR M1 (by omega)
 rcases ho1 : upI l 4294967295 with _ | ⟨x1, l1⟩
 ·rw [ho1] at hp
  obtain rfl : e1 = _ := hp
  have hn : rdTell r l = none := by simp only [rdTell,ho1,Option.bind_none]
  simp
  rw [hn]
  exact ⟨MM1,rfl⟩
 rw [ho1] at hp
 obtain ⟨rfl,H1⟩ := hp
 simp
 refine FN.mono (rd_node H1) ?_
 rintro e2 w2 ⟨M2,hp⟩
 have MM2 : Mod (fun j => j = b ∨ j = rb) w w2 := Mod.trans MM1 (M2.weaken fun j hj => .inl hj)
 have R2 := Blk.mod R1 M2 (by omega)
 rcases ho2 : upI l1 4294967295 with _ | ⟨x2, l2⟩
 ·rw [ho2] at hp
  obtain rfl : e2 = _ := hp
  have hn : rdTell r l = none := by simp only [rdTell,ho1,ho2,Option.bind_some,Option.bind_none]
  simp
  rw [hn]
  exact ⟨MM2,rfl⟩
 rw [ho2] at hp
 obtain ⟨rfl,H2⟩ := hp
 simp
 refine FN.mono (rd_node H2) ?_
 rintro e3 w3 ⟨M3,hp⟩
 have MM3 : Mod (fun j => j = b ∨ j = rb) w w3 := Mod.trans MM2 (M3.weaken fun j hj => .inl hj)
 have R3 := Blk.mod R2 M3 (by omega)
 rcases ho3 : upI l2 4294967295 with _ | ⟨x3, l3⟩
 ·rw [ho3] at hp
  obtain rfl : e3 = _ := hp
  have hn : rdTell r l = none := by simp only [rdTell,ho1,ho2,ho3,Option.bind_some,Option.bind_none]
  simp
  rw [hn]
  exact ⟨MM3,rfl⟩
 rw [ho3] at hp
 obtain ⟨rfl,H3⟩ := hp
 simp [R3.cell 8 _ rfl,R3.cell 9 _ rfl,R3.cell 10 _ rfl,R3.thaw,cell_setCell]
 have M4 : Mod (fun j => j = rb) w3 (((w3.setCell ⟨rb,8,none⟩ (u64 x1)).setCell ⟨rb,9,none⟩ (u32 x2)).setCell ⟨rb,10,none⟩ (u32 x3)) := ((((Mod.refl _ _).setC 8 _).setC 9 _).setC 10 _)
 have R4 : Blk (((w3.setCell ⟨rb, 8, none⟩ (u64 x1)).setCell ⟨rb, 9, none⟩ (u32 x2)).setCell ⟨rb, 10, none⟩ (u32 x3)) rb (recC { r with num := x1, node := x2, reg := x3 }) := by
  have := (((R3.set 8 (u64 x1)).set 9 (u32 x2)).set 10 (u32 x3))
  simp only [List.set_cons_zero,List.set_cons_succ] at this
  exact this
 have H4 := H3.ext' (M4.weaken fun j hj => by rw [hj]; exact ⟨hrb,fun e => hne e.symm⟩)
 have MM4 : Mod (fun j => j = b ∨ j = rb) w (((w3.setCell ⟨rb,8,none⟩ (u64 x1)).setCell ⟨rb,9,none⟩ (u32 x2)).setCell ⟨rb,10,none⟩ (u32 x3)) := Mod.trans MM3 (M4.weaken fun j hj => .inr hj)
 generalize (((w3.setCell ⟨rb,8,none⟩ (u64 x1)).setCell ⟨rb,9,none⟩ (u32 x2)).setCell ⟨rb,10,none⟩ (u32 x3)) = w4 at *
 refine FN.mono (rd_yes H4) ?_
 rintro e4 w5 ⟨M5,hp⟩
 have MM5 : Mod (fun j => j = b ∨ j = rb) w w5 := Mod.trans MM4 (M5.weaken fun j hj => .inl hj)
 have R5 := Blk.mod R4 M5 (by omega)
 rcases ho4 : yesI l3 with _ | ⟨x4, l4⟩
 ·rw [ho4] at hp
  obtain rfl : e4 = _ := hp
  have hn : rdTell r l = none := by simp only [rdTell,ho1,ho2,ho3,ho4,Option.bind_some,Option.bind_none]
  simp
  rw [hn]
  exact ⟨MM5,rfl⟩
 rw [ho4] at hp
 obtain ⟨rfl,H5⟩ := hp
 simp [R5.cell 11 _ rfl,R5.thaw]
 have M6 : Mod (fun j => j = rb) w5 (w5.setCell ⟨rb,11,none⟩ (.bool x4)) := ((Mod.refl _ _).setC 11 _)
 have R6 : Blk (w5.setCell ⟨rb, 11, none⟩ (.bool x4)) rb (recC { r with num := x1, node := x2, reg := x3, yes := x4 }) := by
  have := (R5.set 11 (.bool x4))
  simp only [List.set_cons_zero,List.set_cons_succ] at this
  exact this
 have H6 := H5.ext' (M6.weaken fun j hj => by rw [hj]; exact ⟨hrb,fun e => hne e.symm⟩)
 have MM6 : Mod (fun j => j = b ∨ j = rb) w (w5.setCell ⟨rb,11,none⟩ (.bool x4)) := Mod.trans MM5 (M6.weaken fun j hj => .inr hj)
 generalize (w5.setCell ⟨rb,11,none⟩ (.bool x4)) = w6 at *
 refine FN.mono (rd_time H6) ?_
 rintro e5 w7 ⟨M7,hp⟩
 have MM7 : Mod (fun j => j = b ∨ j = rb) w w7 := Mod.trans MM6 (M7.weaken fun j hj => .inl hj)
 have R7 := Blk.mod R6 M7 (by omega)
 rcases ho5 : upI l4 4611686018427387903 with _ | ⟨x5, l5⟩
 ·rw [ho5] at hp
  obtain rfl : e5 = _ := hp
  have hn : rdTell r l = none := by simp only [rdTell,ho1,ho2,ho3,ho4,ho5,Option.bind_some,Option.bind_none]
  simp
  rw [hn]
  exact ⟨MM7,rfl⟩
 rw [ho5] at hp
 obtain ⟨rfl,H7⟩ := hp
 simp [R7.cell 13 _ rfl,R7.thaw]
 have M8 : Mod (fun j => j = rb) w7 (w7.setCell ⟨rb,13,none⟩ (u64 x5)) := ((Mod.refl _ _).setC 13 _)
 have R8 : Blk (w7.setCell ⟨rb, 13, none⟩ (u64 x5)) rb (recC { r with num := x1, node := x2, reg := x3, yes := x4, til := x5 }) := by
  have := (R7.set 13 (u64 x5))
  simp only [List.set_cons_zero,List.set_cons_succ] at this
  exact this
 have H8 := H7.ext' (M8.weaken fun j hj => by rw [hj]; exact ⟨hrb,fun e => hne e.symm⟩)
 have MM8 : Mod (fun j => j = b ∨ j = rb) w (w7.setCell ⟨rb,13,none⟩ (u64 x5)) := Mod.trans MM7 (M8.weaken fun j hj => .inr hj)
 have hs : rdTell r l = some ({ r with num := x1,node := x2,reg := x3,yes := x4,til := x5 },l5) := by simp only [rdTell,ho1,ho2,ho3,ho4,ho5,Option.bind_some]
 rw [hs]
 exact ⟨MM8,⟨_,rfl⟩,H8,R8⟩
def rdFore (r : Rec) (l : List It) : Option (Rec × List It) := (upI l 4294967295).bind fun p1 => (upI p1.2 4611686018427387903).bind fun p2 => (upI p2.2 4611686018427387903).bind fun p3 => (upI p3.2 3).bind fun p4 => some ({ r with node := p1.1,fro := p2.1,til := p3.1,lev := p4.1 },p4.2)
set_option maxHeartbeats 1000000 in
theorem rdFore_c {w0 w : World} {b rb : Nat} {l : List It} {r : Rec} (h : Rd w0 w b l) (hR : Blk w rb (recC r)) (hrb : w0.heap.size ≤ rb) (hne : b ≠ rb) : FN Tryz.prog 215 [ptr b, ptr rb] w fun e w' => RdR w0 w w' b rb (rdFore r l) e := by
 refine FN_enter Tryz.func215 rfl rfl (by kernel_rfl) ?_
 simp
 refine FN.mono (rd_node h) ?_
 rintro e1 w1 ⟨M1,hp⟩
 have MM1 : Mod (fun j => j = b ∨ j = rb) w w1 := Mod.trans (Mod.refl _ _) (M1.weaken fun j hj => .inl hj)
 have R1 := Blk.mod hR M1 (by omega)
 rcases ho1 : upI l 4294967295 with _ | ⟨x1, l1⟩
 ·rw [ho1] at hp
  obtain rfl : e1 = _ := hp
  have hn : rdFore r l = none := by simp only [rdFore,ho1,Option.bind_none]
  simp
  rw [hn]
  exact ⟨MM1,rfl⟩
 rw [ho1] at hp
 obtain ⟨rfl,H1⟩ := hp
 simp [R1.cell 9 _ rfl,R1.thaw]
 have M2 : Mod (fun j => j = rb) w1 (w1.setCell ⟨rb,9,none⟩ (u32 x1)) := ((Mod.refl _ _).setC 9 _)
 have R2 : Blk (w1.setCell ⟨rb, 9, none⟩ (u32 x1)) rb (recC { r with node := x1 }) := by
  have := (R1.set 9 (u32 x1))
  simp only [List.set_cons_zero,List.set_cons_succ] at this
  exact this
 have H2 := H1.ext' (M2.weaken fun j hj => by rw [hj]; exact ⟨hrb,fun e => hne e.symm⟩)
 have MM2 : Mod (fun j => j = b ∨ j = rb) w (w1.setCell ⟨rb,9,none⟩ (u32 x1)) := Mod.trans MM1 (M2.weaken fun j hj => .inr hj)
 generalize (w1.setCell ⟨rb,9,none⟩ (u32 x1)) = w2 at *
 refine FN.mono (rd_time H2) ?_
 rintro e2 w3 ⟨M3,hp⟩
 have MM3 : Mod (fun j => j = b ∨ j = rb) w w3 := Mod.trans MM2 (M3.weaken fun j hj => .inl hj)
 have R3 := Blk.mod R2 M3 (by omega)
 rcases ho2 : upI l1 4611686018427387903 with _ | ⟨x2, l2⟩
 ·rw [ho2] at hp
  obtain rfl : e2 = _ := hp
  have hn : rdFore r l = none := by simp only [rdFore,ho1,ho2,Option.bind_some,Option.bind_none]
  simp
  rw [hn]
  exact ⟨MM3,rfl⟩
 rw [ho2] at hp
 obtain ⟨rfl,H3⟩ := hp
 simp
 refine FN.mono (rd_time H3) ?_
 rintro e3 w4 ⟨M4,hp⟩
 have MM4 : Mod (fun j => j = b ∨ j = rb) w w4 := Mod.trans MM3 (M4.weaken fun j hj => .inl hj)
 have R4 := Blk.mod R3 M4 (by omega)
 rcases ho3 : upI l2 4611686018427387903 with _ | ⟨x3, l3⟩
 ·rw [ho3] at hp
  obtain rfl : e3 = _ := hp
  have hn : rdFore r l = none := by simp only [rdFore,ho1,ho2,ho3,Option.bind_some,Option.bind_none]
  simp
  rw [hn]
  exact ⟨MM4,rfl⟩
 rw [ho3] at hp
 obtain ⟨rfl,H4⟩ := hp
 simp [R4.cell 12 _ rfl,R4.cell 13 _ rfl,R4.thaw,cell_setCell]
 have M5 : Mod (fun j => j = rb) w4 ((w4.setCell ⟨rb,12,none⟩ (u64 x2)).setCell ⟨rb,13,none⟩ (u64 x3)) := (((Mod.refl _ _).setC 12 _).setC 13 _)
 have R5 : Blk ((w4.setCell ⟨rb, 12, none⟩ (u64 x2)).setCell ⟨rb, 13, none⟩ (u64 x3)) rb (recC { r with node := x1, fro := x2, til := x3 }) := by
  have := ((R4.set 12 (u64 x2)).set 13 (u64 x3))
  simp only [List.set_cons_zero,List.set_cons_succ] at this
  exact this
 have H5 := H4.ext' (M5.weaken fun j hj => by rw [hj]; exact ⟨hrb,fun e => hne e.symm⟩)
 have MM5 : Mod (fun j => j = b ∨ j = rb) w ((w4.setCell ⟨rb,12,none⟩ (u64 x2)).setCell ⟨rb,13,none⟩ (u64 x3)) := Mod.trans MM4 (M5.weaken fun j hj => .inr hj)
 generalize ((w4.setCell ⟨rb,12,none⟩ (u64 x2)).setCell ⟨rb,13,none⟩ (u64 x3)) = w5 at *
 refine FN.mono (rdUpu8 H5 3 fun x h0 h1 => wrap8u x h0 (by omega)) ?_
 rintro e4 w6 ⟨M6,hp⟩
 have MM6 : Mod (fun j => j = b ∨ j = rb) w w6 := Mod.trans MM5 (M6.weaken fun j hj => .inl hj)
 have R6 := Blk.mod R5 M6 (by omega)
 rcases ho4 : upI l3 3 with _ | ⟨x4, l4⟩
 ·rw [ho4] at hp
  obtain rfl : e4 = _ := hp
  have hn : rdFore r l = none := by simp only [rdFore,ho1,ho2,ho3,ho4,Option.bind_some,Option.bind_none]
  simp
  rw [hn]
  exact ⟨MM6,rfl⟩
 rw [ho4] at hp
 obtain ⟨rfl,H6⟩ := hp
 simp [R6.cell 14 _ rfl,R6.thaw]
 have M7 : Mod (fun j => j = rb) w6 (w6.setCell ⟨rb,14,none⟩ (u8 x4)) := ((Mod.refl _ _).setC 14 _)
 have R7 : Blk (w6.setCell ⟨rb, 14, none⟩ (u8 x4)) rb (recC { r with node := x1, fro := x2, til := x3, lev := x4 }) := by
  have := (R6.set 14 (u8 x4))
  simp only [List.set_cons_zero,List.set_cons_succ] at this
  exact this
 have H7 := H6.ext' (M7.weaken fun j hj => by rw [hj]; exact ⟨hrb,fun e => hne e.symm⟩)
 have MM7 : Mod (fun j => j = b ∨ j = rb) w (w6.setCell ⟨rb,14,none⟩ (u8 x4)) := Mod.trans MM6 (M7.weaken fun j hj => .inr hj)
 have hs : rdFore r l = some ({ r with node := x1,fro := x2,til := x3,lev := x4 },l4) := by simp only [rdFore,ho1,ho2,ho3,ho4,Option.bind_some]
 rw [hs]
 exact ⟨MM7,⟨_,rfl⟩,H7,R7⟩
def rdMem (r : Rec) (l : List It) : Option (Rec × List It) := (upI l 4294967295).bind fun p1 => (upI p1.2 4294967295).bind fun p2 => (upI p2.2 4294967295).bind fun p3 => (yesI p3.2).bind fun p4 => some ({ r with node := p1.1,reg := p2.1,num := p3.1,yes := p4.1 },p4.2)
set_option maxHeartbeats 1000000 in
theorem rdMem_c {w0 w : World} {b rb : Nat} {l : List It} {r : Rec} (h : Rd w0 w b l) (hR : Blk w rb (recC r)) (hrb : w0.heap.size ≤ rb) (hne : b ≠ rb) : FN Tryz.prog 220 [ptr b, ptr rb] w fun e w' => RdR w0 w w' b rb (rdMem r l) e := by
 refine FN_enter Tryz.func220 rfl rfl (by kernel_rfl) ?_
 simp
 refine FN.mono (rd_node h) ?_
 rintro e1 w1 ⟨M1,hp⟩
 have MM1 : Mod (fun j => j = b ∨ j = rb) w w1 := Mod.trans (Mod.refl _ _) (M1.weaken fun j hj => .inl hj)
 have R1 := Blk.mod hR M1 (by omega)
 rcases ho1 : upI l 4294967295 with _ | ⟨x1, l1⟩
 ·rw [ho1] at hp
  obtain rfl : e1 = _ := hp
  have hn : rdMem r l = none := by simp only [rdMem,ho1,Option.bind_none]
  simp
  rw [hn]
  exact ⟨MM1,rfl⟩
 rw [ho1] at hp
 obtain ⟨rfl,H1⟩ := hp
 simp
 refine FN.mono (rd_node H1) ?_
 rintro e2 w2 ⟨M2,hp⟩
 have MM2 : Mod (fun j => j = b ∨ j = rb) w w2 := Mod.trans MM1 (M2.weaken fun j hj => .inl hj)
 have R2 := Blk.mod R1 M2 (by omega)
 rcases ho2 : upI l1 4294967295 with _ | ⟨x2, l2⟩
 ·rw [ho2] at hp
  obtain rfl : e2 = _ := hp
  have hn : rdMem r l = none := by simp only [rdMem,ho1,ho2,Option.bind_some,Option.bind_none]
  simp
  rw [hn]
  exact ⟨MM2,rfl⟩
 rw [ho2] at hp
 obtain ⟨rfl,H2⟩ := hp
 simp [R2.cell 9 _ rfl,R2.cell 10 _ rfl,R2.thaw,cell_setCell]
 have M3 : Mod (fun j => j = rb) w2 ((w2.setCell ⟨rb,9,none⟩ (u32 x1)).setCell ⟨rb,10,none⟩ (u32 x2)) := (((Mod.refl _ _).setC 9 _).setC 10 _)
 have R3 : Blk ((w2.setCell ⟨rb, 9, none⟩ (u32 x1)).setCell ⟨rb, 10, none⟩ (u32 x2)) rb (recC { r with node := x1, reg := x2 }) := by
  have := ((R2.set 9 (u32 x1)).set 10 (u32 x2))
  simp only [List.set_cons_zero,List.set_cons_succ] at this
  exact this
 have H3 := H2.ext' (M3.weaken fun j hj => by rw [hj]; exact ⟨hrb,fun e => hne e.symm⟩)
 have MM3 : Mod (fun j => j = b ∨ j = rb) w ((w2.setCell ⟨rb,9,none⟩ (u32 x1)).setCell ⟨rb,10,none⟩ (u32 x2)) := Mod.trans MM2 (M3.weaken fun j hj => .inr hj)
 generalize ((w2.setCell ⟨rb,9,none⟩ (u32 x1)).setCell ⟨rb,10,none⟩ (u32 x2)) = w3 at *
 refine FN.mono (rdUpu64 H3 4294967295 fun x h0 h1 => wrap64u x h0 (by omega)) ?_
 rintro e3 w4 ⟨M4,hp⟩
 have MM4 : Mod (fun j => j = b ∨ j = rb) w w4 := Mod.trans MM3 (M4.weaken fun j hj => .inl hj)
 have R4 := Blk.mod R3 M4 (by omega)
 rcases ho3 : upI l2 4294967295 with _ | ⟨x3, l3⟩
 ·rw [ho3] at hp
  obtain rfl : e3 = _ := hp
  have hn : rdMem r l = none := by simp only [rdMem,ho1,ho2,ho3,Option.bind_some,Option.bind_none]
  simp
  rw [hn]
  exact ⟨MM4,rfl⟩
 rw [ho3] at hp
 obtain ⟨rfl,H4⟩ := hp
 simp [R4.cell 8 _ rfl,R4.thaw]
 have M5 : Mod (fun j => j = rb) w4 (w4.setCell ⟨rb,8,none⟩ (u64 x3)) := ((Mod.refl _ _).setC 8 _)
 have R5 : Blk (w4.setCell ⟨rb, 8, none⟩ (u64 x3)) rb (recC { r with node := x1, reg := x2, num := x3 }) := by
  have := (R4.set 8 (u64 x3))
  simp only [List.set_cons_zero,List.set_cons_succ] at this
  exact this
 have H5 := H4.ext' (M5.weaken fun j hj => by rw [hj]; exact ⟨hrb,fun e => hne e.symm⟩)
 have MM5 : Mod (fun j => j = b ∨ j = rb) w (w4.setCell ⟨rb,8,none⟩ (u64 x3)) := Mod.trans MM4 (M5.weaken fun j hj => .inr hj)
 generalize (w4.setCell ⟨rb,8,none⟩ (u64 x3)) = w5 at *
 refine FN.mono (rd_yes H5) ?_
 rintro e4 w6 ⟨M6,hp⟩
 have MM6 : Mod (fun j => j = b ∨ j = rb) w w6 := Mod.trans MM5 (M6.weaken fun j hj => .inl hj)
 have R6 := Blk.mod R5 M6 (by omega)
 rcases ho4 : yesI l3 with _ | ⟨x4, l4⟩
 ·rw [ho4] at hp
  obtain rfl : e4 = _ := hp
  have hn : rdMem r l = none := by simp only [rdMem,ho1,ho2,ho3,ho4,Option.bind_some,Option.bind_none]
  simp
  rw [hn]
  exact ⟨MM6,rfl⟩
 rw [ho4] at hp
 obtain ⟨rfl,H6⟩ := hp
 simp [R6.cell 11 _ rfl,R6.thaw]
 have M7 : Mod (fun j => j = rb) w6 (w6.setCell ⟨rb,11,none⟩ (.bool x4)) := ((Mod.refl _ _).setC 11 _)
 have R7 : Blk (w6.setCell ⟨rb, 11, none⟩ (.bool x4)) rb (recC { r with node := x1, reg := x2, num := x3, yes := x4 }) := by
  have := (R6.set 11 (.bool x4))
  simp only [List.set_cons_zero,List.set_cons_succ] at this
  exact this
 have H7 := H6.ext' (M7.weaken fun j hj => by rw [hj]; exact ⟨hrb,fun e => hne e.symm⟩)
 have MM7 : Mod (fun j => j = b ∨ j = rb) w (w6.setCell ⟨rb,11,none⟩ (.bool x4)) := Mod.trans MM6 (M7.weaken fun j hj => .inr hj)
 have hs : rdMem r l = some ({ r with node := x1,reg := x2,num := x3,yes := x4 },l4) := by simp only [rdMem,ho1,ho2,ho3,ho4,Option.bind_some]
 rw [hs]
 exact ⟨MM7,⟨_,rfl⟩,H7,R7⟩
end Go.Proofs
namespace Go.Proofs
open Pk
set_option maxRecDepth 10000
noncomputable def rdRep (r : Rec) (l : List It) : Option (Rec × List It) :=
 match l with
 | [] => none
 | x :: l => if namF x = true then (upI l 4).bind fun p1 => (upI p1.2 6).bind fun p2 => (upI p2.2 4611686018427387903).bind fun p3 =>
   some ({ r with nn := (namN x).nn,ns := (namN x).ns,nt := (namN x).nt,nq := (namN x).nq,what := p1.1,why := p2.1,at' := p3.1 },p3.2) else none
set_option maxHeartbeats 2000000 in
theorem rdRep_t {w0 w : World} {b rb : Nat} {x : It} {l l1 l2 l3 : List It} {r : Rec} {a1 a2 a3 : Int} (h : Rd w0 w b (x :: l)) (hR : Blk w rb (recC r)) (hrb : w0.heap.size ≤ rb) (hne : b ≠ rb) (hx : namF x = true) (hxn : (numsOf x).length ≤ 1000000)
  (ho1 : upI l 4 = some (a1,l1)) (ho2 : upI l1 6 = some (a2,l2)) (ho3 : upI l2 4611686018427387903 = some (a3,l3)) :
  FN Tryz.prog 257 [ptr b,ptr rb] w fun e w' => RdR w0 w w' b rb (some ({ r with nn := (namN x).nn,ns := (namN x).ns,nt := (namN x).nt,nq := (namN x).nq,what := a1,why := a2,at' := a3 },l3)) e := by
 refine FN_enter Tryz.func257 rfl rfl (by kernel_rfl) ?_
 simp
 refine FN.mono (rd_next h) ?_
 rintro e1 w1 ⟨M1,⟨cs,ba,bc,la,lc,css,rfl,hO⟩,H1⟩
 have hlb : w0.heap.size ≤ b := h.lt
 have hE1 : Ext w0 w1 := H1.ext
 have R1 := Blk.mod hR M1 (by omega)
 simp
 refine FN.mono (nameOf_c (ItP.ext hO.itC hE1) hxn) ?_
 rintro _ w2 ⟨rfl,hE2⟩
 rw [hx]
 obtain ⟨N,hN⟩ : ∃ N,N = namN x := ⟨_,rfl⟩
 rw [← hN]
 have H2 := H1.more hE2
 have R2 := R1.ext hE2
 simp
 have b4 := Blk.new w2 (namC N) 40
 have hE3 : Ext w2 (w2.alloc (.cells #[u32 N.nn,u32 N.ns,u64 N.nt,u32 N.nq] 40)) := (Ext.refl _).alloc _
 have rl := R2.lt
 have bl : b < w2.heap.size := by
  obtain ⟨v,css,hb,-⟩ := H2.row
  exact hb.lt
 have M3 : Mod (fun j => j = b ∨ j = rb) w (w2.alloc (.cells #[u32 N.nn,u32 N.ns,u64 N.nt,u32 N.nq] 40)) := ((M1.weaken fun j hj => .inl hj).trans hE2.mod).trans hE3.mod
 have H3 := H2.more hE3
 have R3 := R2.ext hE3
 generalize (w2.alloc (.cells #[u32 N.nn,u32 N.ns,u64 N.nt,u32 N.nq] 40)) = w3 at *
 refine FN.mono (must_t 180 w3) ?_
 rintro _ w4 ⟨⟨u,rfl⟩,h4⟩
 subst h4
 simp
 refine WC_drawL 14 (.F 0 <| .F 1 <| .F 2 <| .F 3 <| .F 4 <| .F 6 <| .C 5 <| .C 7 <| .F 8 <| .F 9 <| .S 10 <| .F 11 <| .F 12 <| .S 13 <| .Z) (Xf fun k => k = b) (Xf fun k => k = b) (fun _ _ _ => True) rfl (by kernel_rfl) (fun _ h => h) (fun _ _ _ _ _ _ => trivial) fun W hW => ?_
 have hWE : Ext w4 W := hW ▸ Ext.drew _
 have X4 : Xf (fun k => k = b) w2.heap.size = false := Xf_f (by omega)
 have b5 := b4.ext hWE
 have H5 := H3.more hWE
 have R5 := R3.ext hWE
 simp [b5.cell 0 _ rfl,b5.cell 1 _ rfl,b5.cell 2 _ rfl,b5.cell 3 _ rfl,X4]
 refine FN.mono (rdUpi64 H5 4 fun y h0 h1 => wrap64 y (by omega) (by omega)) ?_
 rintro e6 w6 ⟨M6,hp⟩
 rw [ho1] at hp
 obtain ⟨rfl,H6⟩ := hp
 simp
 refine KR_mk (Xf_agr M6) ?_
 simp
 refine FN.mono (rdUpi64 H6 6 fun y h0 h1 => wrap64 y (by omega) (by omega)) ?_
 rintro e7 w7 ⟨M7,hp⟩
 rw [ho2] at hp
 obtain ⟨rfl,H7⟩ := hp
 simp
 refine KR_mk (Xf_agr M7) ?_
 have R7 := (Blk.mod R5 M6 (by omega)).mod M7 (by omega)
 simp [R7.cell 1 _ rfl,R7.cell 2 _ rfl,R7.cell 3 _ rfl,R7.cell 4 _ rfl,R7.thaw,cell_setCell]
 have M8 : Mod (fun j => j = rb) w7 ((((w7.setCell ⟨rb,1,none⟩ (u32 N.nn)).setCell ⟨rb,2,none⟩ (u32 N.ns)).setCell ⟨rb,3,none⟩ (u64 N.nt)).setCell ⟨rb,4,none⟩ (u32 N.nq)) := ((((Mod.refl _ _).setC 1 _).setC 2 _).setC 3 _).setC 4 _
 have R8 := (((R7.set 1 (u32 N.nn)).set 2 (u32 N.ns)).set 3 (u64 N.nt)).set 4 (u32 N.nq)
 simp only [List.set_cons_zero,List.set_cons_succ] at R8
 refine KR_mk (agr_any (M8.weaken fun _ _ => trivial)) ?_
 generalize ((((w7.setCell ⟨rb,1,none⟩ (u32 N.nn)).setCell ⟨rb,2,none⟩ (u32 N.ns)).setCell ⟨rb,3,none⟩ (u64 N.nt)).setCell ⟨rb,4,none⟩ (u32 N.nq)) = w8 at *
 simp [R8.cell 5 _ rfl,R8.thaw]
 have M9 : Mod (fun j => j = rb) w8 (w8.setCell ⟨rb,5,none⟩ (i64 a1)) := (Mod.refl _ _).setC 5 _
 have R9 := R8.set 5 (i64 a1)
 simp only [List.set_cons_zero,List.set_cons_succ] at R9
 refine KR_mk (agr_any (M9.weaken fun _ _ => trivial)) ?_
 generalize (w8.setCell ⟨rb,5,none⟩ (i64 a1)) = w9 at *
 simp [R9.cell 6 _ rfl,R9.thaw]
 have M10 : Mod (fun j => j = rb) w9 (w9.setCell ⟨rb,6,none⟩ (i64 a2)) := (Mod.refl _ _).setC 6 _
 have R10 := R9.set 6 (i64 a2)
 simp only [List.set_cons_zero,List.set_cons_succ] at R10
 have MS := (M8.trans M9).trans M10
 have H10 := H7.ext' (MS.weaken fun j hj => by rw [hj]; exact ⟨hrb,fun e => hne e.symm⟩)
 generalize (w9.setCell ⟨rb,6,none⟩ (i64 a2)) = w10 at *
 refine FN.mono (rd_time H10) ?_
 rintro e11 w11 ⟨M11,hp⟩
 rw [ho3] at hp
 obtain ⟨rfl,H11⟩ := hp
 have R11 := Blk.mod R10 M11 (by omega)
 simp [R11.cell 7 _ rfl,R11.thaw]
 have M12 : Mod (fun j => j = rb) w11 (w11.setCell ⟨rb,7,none⟩ (u64 a3)) := (Mod.refl _ _).setC 7 _
 have R12 := R11.set 7 (u64 a3)
 simp only [List.set_cons_zero,List.set_cons_succ] at R12
 have H12 := H11.ext' (M12.weaken fun j hj => by rw [hj]; exact ⟨hrb,fun e => hne e.symm⟩)
 refine ⟨?_,⟨_,rfl⟩,H12,R12⟩
 have A : Mod (fun j => j = b ∨ j = rb) w4 w7 := (hWE.mod.trans (M6.weaken fun j hj => .inl hj)).trans (M7.weaken fun j hj => .inl hj)
 exact (((M3.trans A).trans (MS.weaken fun j hj => .inr hj)).trans (M11.weaken fun j hj => .inl hj)).trans (M12.weaken fun j hj => .inr hj)
end Go.Proofs
namespace Go.Proofs
open Pk
set_option maxRecDepth 10000
theorem ccheckF_c (x : Int) (w : World) : FN Tryz.prog 246 [u64 x] w fun e w' => e = .returned (.bool (decide (x ≤ 4611686018427387903))) ∧ w' = w := by
 refine FN_enter Tryz.func246 rfl rfl (by kernel_rfl) ?_
 simp
theorem callF_c (x : Int) {b : Nat} {w : World} (hb : Var w b (.func (.func 246) #[] #[])) : FN Tryz.prog 276 [u64 x, ptr b] w fun e w' => e = .returned (.bool (!decide (x ≤ 4611686018427387903))) ∧ w' = w := by
 refine FN_enter Tryz.func276 rfl rfl (by kernel_rfl) ?_
 simp [hb.cell]
 refine FN.mono (ccheckF_c x w) ?_
 rintro _ w1 ⟨rfl,h1⟩
 subst h1
 simp
theorem indexF_c {w : World} {b : Nat} {v : Value} {l : List Int} (hb : Var w b (.func (.func 246) #[] #[])) (h : Sl w 1 v l.length (l.map u64)) (hl : l.length ≤ 1000) :
  FN Tryz.prog 304 [v,.func (.func 276) #[] #[ptr b]] w fun e w' => (∃ i : Int,e = .returned (i64 i) ∧ decide (0 ≤ i) = !l.all fun x => decide (x ≤ 4611686018427387903)) ∧ w' = w := by
 refine FN_enter Tryz.func304 rfl rfl (by kernel_rfl) ?_
 have hlen := fun ty W => h.isLen (P := Tryz.prog) (t := 83) (by simp) ty W
 simp [hlen]
 refine WC_loop (fun k ρ ds w' => ∃ i : Nat,k = l.length - i ∧ i ≤ l.length ∧ ρ 0 = v ∧ ρ 1 = .func (.func 276) #[] #[ptr b] ∧ ρ 7 = i64 l.length ∧ ρ 8 = i64 i ∧ ds = [] ∧ w' = w ∧ ∀ j (hj : j < l.length),j < i → l[j] ≤ 4611686018427387903) l.length ⟨0,by simp,by simp,by simp,by simp,by simp,by simp,rfl,rfl,fun j _ h => by omega⟩ ?_
 rintro k ρ ds w1 ⟨i,rfl,hi,e0,e1,e7,e8,rfl,rfl,hno⟩
 by_cases hlt : i < l.length
 ·have ix := fun W => h.index (P := Tryz.prog) (t := 83) (by simp) .i64 i (by omega) (by omega) W
  have d := h.at_ i (u64 l[i]) (by simp [hlt])
  simp [e0,e1,e7,e8,hlt,ix,d]
  refine FN.mono (callF_c l[i] hb) ?_
  rintro _ w2 ⟨rfl,h2⟩
  subst h2
  by_cases hx : l[i] ≤ 4611686018427387903
  ·simp [hx,e0,e1,e7,e8]
   refine ⟨l.length - (i + 1),by omega,i + 1,rfl,by omega,by rw [wrap64 _ (by omega) (by omega)]; rfl,fun j hj hji => ?_⟩
   rcases Nat.lt_succ_iff_lt_or_eq.1 hji with h1 | rfl
   ·exact hno j hj h1
   ·exact hx
  ·simp [hx]
   exact ⟨l[i],by simp,by omega⟩
 ·have : i = l.length := by omega
  subst this
  simp [e7,e8]
  intro x hx
  obtain ⟨j,hj,rfl⟩ := List.getElem_of_mem hx
  exact hno j hj hj
def timesOk (l : List Int) : Bool := l.all fun x => decide (x ≤ 4611686018427387903)
theorem ccheck_c {w : World} {v : Value} {l : List Int} (h : Sl w 1 v l.length (l.map u64)) (hl : l.length ≤ 1000) : FN Tryz.prog 190 [v] w fun e w' => e = .returned (i64 (if timesOk l then 0 else 2)) ∧ Ext w w' := by
 refine FN_enter Tryz.func190 rfl rfl (by kernel_rfl) ?_
 simp
 have hall : FN Tryz.prog 245 [.func (.func 246) #[] #[], v] w fun e w' => e = .returned (.bool (timesOk l)) ∧ Ext w w' := by
  refine FN_enter Tryz.func245 rfl rfl (by kernel_rfl) ?_
  simp
  have hE1 := (Ext.refl w).alloc (.cells #[.func (.func 246) #[] #[]] 287)
  have v1 : Var (w.alloc (.cells #[.func (.func 246) #[] #[]] 287)) w.heap.size (.func (.func 246) #[] #[]) := Var.new w _ _
  generalize (w.alloc (.cells #[.func (.func 246) #[] #[]] 287)) = w1 at *
  refine FN_enter Tryz.func275 rfl rfl (by kernel_rfl) ?_
  simp
  refine FN.mono (indexF_c v1 (h.ext hE1) hl) ?_
  rintro _ w2 ⟨⟨i,rfl,hi⟩,h2⟩
  subst h2
  simp [hi,timesOk]
  exact hE1
 refine FN.mono (hall) ?_
 rintro _ w1 ⟨rfl,hE1⟩
 cases ht : timesOk l with
 | true => simp; exact hE1
 | false => simp; exact hE1
end Go.Proofs
namespace Go.Proofs
open Pk
set_option maxRecDepth 10000
theorem caught_idle (a b : Value) (w : World) : CallsDIn (FR none) 0 Tryz.prog 152 #[a, b] .returning w fun e u' w' => (∃ v, e = .returned v) ∧ u' = .returning ∧ w' = w := by
 refine callsDIn_of_wpSIn Tryz.func152 rfl trivial fun c₀ cs hu => ?_
 apply wpSIn_seq
 apply wpSIn_region
 simp [wpOpsSIn,go_sem,recoverD,hu,Exit.thenS]
 apply wpSIn_seq
 apply wpSIn_region
 simp [wpOpsSIn,go_sem,Act.eval,Array.replicate,Exit.thenS]
 refine wpSIn_cond (t := false) (by simp [Act.eval]) ?_
 simp only [Bool.false_eq_true,if_false]
 refine wpSIn_of_wpIn rfl (wpIn_skip ?_)
 cases c₀
 simp_all [bodyPostS,results]
theorem LV_caught {rs : Array ResultVar} {R : Ending → World → Prop} {ρ : Env} {ds : List Deferred} {w : World} {a b : Value} (h : LV Tryz.prog rs R ρ ds .returning w) :
  LV Tryz.prog rs R ρ ({ target := .fn (.func 152) #[],args := #[a,b] } :: ds) .returning w := by
 refine ⟨by simp, .inr ⟨.func 152, #[], 152, #[a, b], rfl, ?_, ?_⟩⟩
 ·have := callFunc_enter Tryz.func152 rfl rfl #[a,b] w
  simp [invoke]
 ·refine (caught_idle a b w).mono ?_
  rintro e u' w' ⟨⟨v,rfl⟩,rfl,rfl⟩
  exact h
def Lays (fl : Nat) (r : Rec) (n : Nat) (cs : List Value) : Prop := ∀ w,FN Tryz.prog fl [recV r] w fun e w' => ∃ v,e = .returned v ∧ Sl w' 5 v n cs ∧ Ext w w'
set_option maxHeartbeats 1000000 in
theorem laid_c {fl fr ff n : Nat} {s : ByteArray} {r : Rec} {cs : List Value} (hl : Lays fl r n cs) (h1 : ∀ u ∈ cs, u.oneCell' = true) (hn : n ≤ 1000) (hk : 0 ≤ r.kind ∧ r.kind ≤ 18446744073709551615) (w : World) :
  FN Tryz.prog 150 [agE [.string s,fnV fl,fnV fr,fnV ff],recV r] w fun e w' => ∃ v,e = .returned (.agg #[i64 4,u64 0,.slice none 0 0,.string ⟨#[]⟩,v]) ∧ Sl w' 5 v (n + 1) (leafC 1 r.kind ++ cs) ∧ Ext w w' ∧ w.heap.size ≤ slB v := by
 refine FN_enter Tryz.func150 rfl rfl (by kernel_rfl) ?_
 simp
 have hE1 : Ext w (((w.alloc (.cells #[.string s,fnV fl,fnV fr,fnV ff] 210)).alloc (.cells (recC r).toArray 42)).alloc (.cells #[i64 0,u64 0,.slice none 0 0,.string ⟨#[]⟩,.slice none 0 0] 160)) := (((Ext.refl w).alloc _).alloc _).alloc _
 have o2 : Blk (((w.alloc (.cells #[.string s,fnV fl,fnV fr,fnV ff] 210)).alloc (.cells (recC r).toArray 42)).alloc (.cells #[i64 0,u64 0,.slice none 0 0,.string ⟨#[]⟩,.slice none 0 0] 160)) w.heap.size [.string s,fnV fl,fnV fr,fnV ff] := (Blk.new w _ _).ext (((Ext.refl _).alloc _).alloc _)
 have o3 : Blk (((w.alloc (.cells #[.string s, fnV fl, fnV fr, fnV ff] 210)).alloc (.cells (recC r).toArray 42)).alloc (.cells #[i64 0, u64 0, .slice none 0 0, .string ⟨#[]⟩, .slice none 0 0] 160)) (w.heap.size + 1) (recC r) := by
  have := (Blk.new (w.alloc (.cells #[.string s,fnV fl,fnV fr,fnV ff] 210)) (recC r) 42).ext ((Ext.refl _).alloc (.cells #[i64 0,u64 0,.slice none 0 0,.string ⟨#[]⟩,.slice none 0 0] 160))
  simpa using this
 have o4 : Blk (((w.alloc (.cells #[.string s, fnV fl, fnV fr, fnV ff] 210)).alloc (.cells (recC r).toArray 42)).alloc (.cells #[i64 0, u64 0, .slice none 0 0, .string ⟨#[]⟩, .slice none 0 0] 160)) (w.heap.size + 1 + 1) [i64 0, u64 0, .slice none 0 0, .string ⟨#[]⟩, .slice none 0 0] := by
  have := Blk.new ((w.alloc (.cells #[.string s,fnV fl,fnV fr,fnV ff] 210)).alloc (.cells (recC r).toArray 42)) [i64 0,u64 0,.slice none 0 0,.string ⟨#[]⟩,.slice none 0 0] 160
  simpa using this
 have z1 : (((w.alloc (.cells #[.string s,fnV fl,fnV fr,fnV ff] 210)).alloc (.cells (recC r).toArray 42)).alloc (.cells #[i64 0,u64 0,.slice none 0 0,.string ⟨#[]⟩,.slice none 0 0] 160)).heap.size = w.heap.size + 1 + 1 + 1 := by simp
 generalize (((w.alloc (.cells #[.string s,fnV fl,fnV fr,fnV ff] 210)).alloc (.cells (recC r).toArray 42)).alloc (.cells #[i64 0,u64 0,.slice none 0 0,.string ⟨#[]⟩,.slice none 0 0] 160)) = w1 at *
 refine WC_drawL 8 (.F 0 <| .F 1 <| .F 4 <| .F 5 <| .F 6 <| .C 2 <| .D 3 <| .L 7 <| .W 3 <| .Z) (fun _ => false) (fun _ => false) (fun _ u W => W.ownsRow w1.heap.size 160 5 u 1 (leafC 1 r.kind)) rfl (by kernel_rfl) (fun _ h => h) (fun _ _ _ _ h1 h2 => own_ext h1 (agr_ext h2)) fun W hW => ?_
 have hWE : Ext w1 W := hW ▸ Ext.drew w1
 have p2 := o2.ext hWE
 have p3 := o3.ext hWE
 have p4 := o4.ext hWE
 simp [p2.cell 1 _ rfl,p3.cell 0 _ rfl,p3.cell 1 _ rfl,p3.cell 2 _ rfl,p3.cell 3 _ rfl,p3.cell 4 _ rfl,p3.cell 5 _ rfl,p3.cell 6 _ rfl,p3.cell 7 _ rfl,p3.cell 8 _ rfl,p3.cell 9 _ rfl,p3.cell 10 _ rfl,p3.cell 11 _ rfl,p3.cell 12 _ rfl,p3.cell 13 _ rfl,p3.cell 14 _ rfl]
 refine FN.mono (numk_c r.kind W hk) ?_
 rintro _ W2 ⟨rfl,hE2⟩
 simp
 refine KR_ext hE2 ?_
 simp
 refine RL_float (fun W' h' => ?_) ?_
 ·simp
  have hs := (hWE.trans (hE2.trans (agr_ext h'))).size
  exact ⟨(Ext.refl _).alloc _,own_made W' (leafC 1 r.kind) 160 5 1 rfl (by omega) w1.heap.size hs⟩
 simp
 refine RL_loose fun W3 h3 => ?_
 simp
 refine FN.mono (hl W3) ?_
 rintro _ W4 ⟨vl,rfl,hvl,hE4⟩
 simp
 refine KR_ext hE4 ?_
 simp
 refine RL_wait fun v5 W5 h5 ho5 => ?_
 have hsz := (hWE.trans (hE2.trans (h3.trans (hE4.trans h5)))).size
 obtain ⟨v6,w6,hr6,ho6,hM6,-⟩ := append_own (P := Tryz.prog) (t := 158) (ty := 158) (e := 160) (s := 5) (by simp) (by simp) (by kernel_rfl) ho5 (hvl.ext h5) h1 (by omega) (by omega)
 rw [Nat.add_comm 1 n] at ho6
 obtain ⟨a6,c6,hv6⟩ := own_val ho6
 have hge := fun hn => own_ge ho5 hn
 subst hv6
 simp [hr6]
 refine FN.mono (list_c a6 (n + 1) c6 w6) ?_
 rintro _ w7 ⟨rfl,hE7⟩
 have hE15 := hWE.trans (hE2.trans (h3.trans (hE4.trans h5)))
 have p7 := ((o4.ext hE15).mod hM6 (fun hk => by have := hge hk.1; omega)).ext hE7
 simp [p7.cell 0 _ rfl,p7.cell 1 _ rfl,p7.cell 2 _ rfl,p7.cell 3 _ rfl,p7.cell 4 _ rfl,p7.thaw,cell_setCell]
 have hM8 : Mod (fun k => k = w.heap.size + 1 + 1) w7 (((((w7.setCell ⟨w.heap.size + 1 + 1, 0, none⟩ (i64 4)).setCell ⟨w.heap.size + 1 + 1, 1, none⟩ (u64 0)).setCell ⟨w.heap.size + 1 + 1, 2, none⟩ (.slice none 0 0)).setCell ⟨w.heap.size + 1 + 1, 3, none⟩ (.string ⟨#[]⟩)).setCell ⟨w.heap.size + 1 + 1, 4, none⟩ (.slice a6 (n + 1) c6)) :=
  (((((Mod.refl _ w7).setC 0 _).setC 1 _).setC 2 _).setC 3 _).setC 4 _
 have hg6 := own_ge ho6 (own_nil ho6 (by omega))
 refine ⟨((sl_of_own ho6).ext hE7).mod hM8 (by omega),?_,by omega⟩
 exact ((((((hE1.trans hE15).mod (S := fun k => w.heap.size ≤ k)).trans (hM6.weaken fun k hk => by have := hge hk.1; omega)).trans (hE7.mod (S := fun k => w.heap.size ≤ k))).trans (hM8.weaken fun k hk => by omega))).ext fun _ h => h
end Go.Proofs