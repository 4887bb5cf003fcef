/-
  Contracts of the functions that the law reaches, step by step.
-/
import Derived.Test.YthamfghcfjhifaaGreatDoorAdG
import Derived.Test.YthamfghcfjhifaaGreatDoorAmD
import Derived.Test.YthamfghcfjhifaaGreatDoorAmG
namespace Go.Proofs
open Pk
set_option maxRecDepth 10000
/-- What a kind's read does, as items. -/
def ReadsI (fr : Nat) (k : Int) (l : List It) (o : Option (Rec × List It)) : Prop := ∀ (w0 w : World) (b rb : Nat), Rd w0 w b l → Blk w rb (recC { rec0 with kind := k }) → w0.heap.size ≤ rb → b ≠ rb → FN Tryz.prog fr [ptr b, ptr rb] w fun e w' => RdR w0 w w' b rb o e
def readO (o : Option (Rec × List It)) (fb : Rec → Bool) : Option Rec := o.bind fun p => if p.2.isEmpty && fb p.1 then some p.1 else none
def RcPost (w w' : World) (o : Option Rec) (e : Ending) : Prop := Ext w w' ∧ match o with | none => e = .panicked (panV 180) | some r => e = .returned (recV r)
set_option maxHeartbeats 4000000 in
theorem readI_c {fl fr ff : Nat} {s : ByteArray} {w : World} {t x0 : It} {l : List It} {cs : List Value} {o : Option (Rec × List It)} {fb : Rec → Bool} (ht : ItC w t cs) (h4 : t.k = 4) (hl : t.l = x0 :: l) (h1 : x0.k = 1) (hx0 : 0 ≤ x0.n ∧ x0.n ≤ 5) (hnn : ∀ y ∈ t.l, 0 ≤ y.n)
    (hk : mget kdL x0.n = some [.string s, fnV fl, fnV fr, fnV ff]) (hread : ReadsI fr x0.n l o) (hfine : ∀ r rest, o = some (r, rest) → Fines ff r (fb r)) :
    FN Tryz.prog 38 [.agg cs.toArray] w fun e w' => RcPost w w' (readO o fb) e := by
  obtain ⟨ba, bc, la, lc, css, hO⟩ := itO ht
  have ecs := hO.cs
  rw [show cs.toArray = #[i64 t.k, u64 t.n, .slice ba t.b.length bc, .string t.s, .slice la t.l.length lc] by rw [ecs]]
  rw [h4]
  refine FN_enter Tryz.func38 rfl rfl (by kernel_rfl) ?_
  simp
  have hE1 : Ext w ((w.alloc (.cells #[i64 4, u64 t.n, .slice ba t.b.length bc, .string t.s, .slice la t.l.length lc] 51)).alloc (.cells #[i64 0, u32 0, u32 0, u64 0, u32 0, i64 0, i64 0, u64 0, u64 0, u32 0, u32 0, .bool false, u64 0, u64 0, u8 0] 30)) := ((Ext.refl w).alloc _).alloc _
  have o1 : Blk ((w.alloc (.cells #[i64 4, u64 t.n, .slice ba t.b.length bc, .string t.s, .slice la t.l.length lc] 51)).alloc (.cells #[i64 0, u32 0, u32 0, u64 0, u32 0, i64 0, i64 0, u64 0, u64 0, u32 0, u32 0, .bool false, u64 0, u64 0, u8 0] 30)) w.heap.size [i64 4, u64 t.n, .slice ba t.b.length bc, .string t.s, .slice la t.l.length lc] := (Blk.new w _ _).ext ((Ext.refl _).alloc _)
  have o2 : Blk ((w.alloc (.cells #[i64 4, u64 t.n, .slice ba t.b.length bc, .string t.s, .slice la t.l.length lc] 51)).alloc (.cells #[i64 0, u32 0, u32 0, u64 0, u32 0, i64 0, i64 0, u64 0, u64 0, u32 0, u32 0, .bool false, u64 0, u64 0, u8 0] 30)) (w.heap.size + 1) [i64 0, u32 0, u32 0, u64 0, u32 0, i64 0, i64 0, u64 0, u64 0, u32 0, u32 0, .bool false, u64 0, u64 0, u8 0] := by
    have := Blk.new (w.alloc (.cells #[i64 4, u64 t.n, .slice ba t.b.length bc, .string t.s, .slice la t.l.length lc] 51)) [i64 0, u32 0, u32 0, u64 0, u32 0, i64 0, i64 0, u64 0, u64 0, u32 0, u32 0, .bool false, u64 0, u64 0, u8 0] 30
    simpa using this
  have z1 : ((w.alloc (.cells #[i64 4, u64 t.n, .slice ba t.b.length bc, .string t.s, .slice la t.l.length lc] 51)).alloc (.cells #[i64 0, u32 0, u32 0, u64 0, u32 0, i64 0, i64 0, u64 0, u64 0, u32 0, u32 0, .bool false, u64 0, u64 0, u8 0] 30)).heap.size = w.heap.size + 1 + 1 := by simp
  generalize ((w.alloc (.cells #[i64 4, u64 t.n, .slice ba t.b.length bc, .string t.s, .slice la t.l.length lc] 51)).alloc (.cells #[i64 0, u32 0, u32 0, u64 0, u32 0, i64 0, i64 0, u64 0, u64 0, u32 0, u32 0, .bool false, u64 0, u64 0, u8 0] 30)) = w1 at *
  refine FN.mono (must_t 180 w1) ?_
  rintro _ w2 ⟨⟨u, rfl⟩, h2⟩
  subst h2
  simp [o1.cell 4 _ rfl]
  have hE3 : Ext w2 (w2.alloc (.cells #[.slice la t.l.length lc] 129)) := (Ext.refl _).alloc _
  have o3 : Blk (w2.alloc (.cells #[.slice la t.l.length lc] 129)) w2.heap.size [.slice la t.l.length lc] := Blk.new w2 _ _
  obtain ⟨b, hb⟩ : ∃ b, b = w2.heap.size := ⟨_, rfl⟩
  obtain ⟨rb, hrb⟩ : ∃ rb, rb = w.heap.size + 1 := ⟨_, rfl⟩
  rw [← hb] at o3 ⊢
  rw [← hrb] at o2 ⊢
  have p2 := o2.ext hE3
  generalize (w2.alloc (.cells #[.slice la t.l.length lc] 129)) = w3 at *
  have hblt := o3.lt
  have hR3 : Rd w w3 b (x0 :: l) := by
    refine ⟨⟨.slice la t.l.length lc, css, o3, ?_, ?_⟩, hE1.trans hE3, by have := hE1.size; omega, fun y hy => hnn y (by rw [hl]; exact hy)⟩
    · have := hO.l; rw [hl] at this ⊢; exact this
    · have := hO.c; rw [hl] at this; exact this
  refine FN.mono (rdUpi64 hR3 5 fun y h0 h1 => wrap64 y (by omega) (by omega)) ?_
  rintro e4 w4 ⟨hM4, hp4⟩
  have hu4 : upI (x0 :: l) 5 = some (x0.n, l) := if_pos ⟨h1, hx0.2⟩
  rw [hu4] at hp4
  obtain ⟨rfl, hR4⟩ := hp4
  obtain ⟨k, hkk⟩ : ∃ k, k = x0.n := ⟨_, rfl⟩
  rw [← hkk] at hk hread ⊢
  have q2 := p2.mod hM4 (by omega)
  simp [q2.cell 0 _ rfl, q2.thaw]
  have q2' := q2.set 0 (i64 k)
  simp only [List.set_cons_zero] at q2'
  have hM5 : Mod (fun j => j = rb) w4 (w4.setCell ⟨rb, 0, none⟩ (i64 k)) := (Mod.refl _ _).setC _ _
  have hR5 := hR4.ext' (hM5.weaken fun j hj => by rw [hj]; exact ⟨by omega, by omega⟩)
  have hsz3 := hE3.size
  have hsz4 := hM4.size
  have hsz5 := hM5.size
  have hEw5 : Ext w (w4.setCell ⟨rb, 0, none⟩ (i64 k)) := ((((hE1.trans hE3).mod (S := fun j => w.heap.size ≤ j)).trans (hM4.weaken fun j hj => by omega)).trans (hM5.weaken fun j hj => by omega)).ext fun _ h => h
  generalize (w4.setCell ⟨rb, 0, none⟩ (i64 k)) = w5 at *
  refine WC_drawL 9 (.F 1 <| .F 2 <| .D 7 <| .L 0 <| .L 3 <| .F 4 <| .F 5 <| .F 6 <| .W 7 <| .S 8 <| .Z) (fun _ => false) (fun _ => false) (fun _ u W => ∃ j, u = ptr j ∧ w5.heap.size ≤ j ∧ Blk W j [.string ⟨#[]⟩, .nilFunc, .nilFunc, .nilFunc]) rfl (by kernel_rfl) (fun _ h => h)
    (fun _ _ _ _ ⟨j, h1, h2, h3⟩ hA => ⟨j, h1, h2, h3.ext (agr_ext hA)⟩) fun W hW => ?_
  have hWE : Ext w5 W := hW ▸ Ext.drew w5
  have r2 := q2'.ext hWE
  simp [r2.cell 0 _ rfl]
  refine RL_float (fun W' h' => ?_) ?_
  · simp
    have hs := (hWE.trans (agr_ext h')).size
    exact ⟨(Ext.refl _).alloc _, hs, Blk.new W' [.string ⟨#[]⟩, .nilFunc, .nilFunc, .nilFunc] 71⟩
  simp
  refine RL_loose fun W3 h3 => ?_
  simp
  refine FN.mono (kinds_c W3) ?_
  rintro _ W4 ⟨mr, rfl, hm, hE4⟩
  simp
  refine KR_ext hE4 ?_
  simp
  refine RL_loose fun W5 h5 => ?_
  simp [kd_look hm hk W5 h5]
  refine KR_same ?_
  simp
  refine RL_wait fun v6 W6 h6 ⟨j, hj, hjs, hjb⟩ => ?_
  subst hj
  simp [hjb.cell 0 _ rfl, hjb.cell 1 _ rfl, hjb.cell 2 _ rfl, hjb.cell 3 _ rfl, hjb.thaw, cell_setCell]
  have hrlt := q2'.lt
  have hM7 : Mod (fun i => i = j) W6 ((((W6.setCell ⟨j, 0, none⟩ (.string s)).setCell ⟨j, 1, none⟩ (fnV fl)).setCell ⟨j, 2, none⟩ (fnV fr)).setCell ⟨j, 3, none⟩ (fnV ff)) := ((((Mod.refl _ W6).setC 0 _).setC 1 _).setC 2 _).setC 3 _
  have j7 := (((hjb.set 0 (.string s)).set 1 (fnV fl)).set 2 (fnV fr)).set 3 (fnV ff)
  simp only [List.set_cons_zero, List.set_cons_succ] at j7
  refine KR_mk (agr_any (hM7.weaken fun _ _ => trivial)) ?_
  have hE56 := hWE.trans (h3.trans (hE4.trans (h5.trans h6)))
  have hsz6 := hE56.size
  have r3 := (q2'.ext hE56).mod hM7 (by omega)
  have hR7 := (hR5.more hE56).ext' (hM7.weaken fun i hi => by rw [hi]; exact ⟨by have := hEw5.size; omega, by omega⟩)
  have hEw7 : Ext w ((((W6.setCell ⟨j, 0, none⟩ (.string s)).setCell ⟨j, 1, none⟩ (fnV fl)).setCell ⟨j, 2, none⟩ (fnV fr)).setCell ⟨j, 3, none⟩ (fnV ff)) := (((hEw5.trans hE56).mod (S := fun j => w.heap.size ≤ j)).trans (hM7.weaken fun i hi => by omega)).ext fun _ h => h
  generalize ((((W6.setCell ⟨j, 0, none⟩ (.string s)).setCell ⟨j, 1, none⟩ (fnV fl)).setCell ⟨j, 2, none⟩ (fnV fr)).setCell ⟨j, 3, none⟩ (fnV ff)) = w7 at *
  simp
  refine FN.mono (must_t 180 w7) ?_
  rintro _ w8 ⟨⟨u8, rfl⟩, h8⟩
  subst h8
  simp [j7.cell 2 _ rfl]
  refine FN.mono (hread w w8 b rb hR7 r3 (by omega) (by omega)) ?_
  rintro e9 w9 ⟨hM9, hp9⟩
  have hEw9 : Ext w w9 := ((hEw7.mod (S := fun j => w.heap.size ≤ j)).trans (hM9.weaken fun i hi => by omega)).ext fun _ h => h
  rcases o with _ | ⟨r1, rest⟩
  · obtain rfl : e9 = _ := hp9
    simp
    exact ⟨hEw9, rfl⟩
  · obtain ⟨⟨u9, rfl⟩, hR9, r9⟩ := hp9
    obtain ⟨⟨v9, css9, t9, hs9, -⟩, -, -, -⟩ := hR9
    obtain ⟨a9, c9, hv9⟩ := hs9.isSlice
    subst hv9
    have hlen9 := fun ty W => hs9.isLen (P := Tryz.prog) (t := 48) (by simp) ty W
    have j9 := j7.mod hM9 (by omega)
    have hf := hfine r1 rest rfl
    cases rest with
    | nil =>
      simp [t9.cell 0 _ rfl, j9.cell 3 _ rfl, r9.cell 0 _ rfl, r9.cell 1 _ rfl, r9.cell 2 _ rfl, r9.cell 3 _ rfl, r9.cell 4 _ rfl, r9.cell 5 _ rfl, r9.cell 6 _ rfl, r9.cell 7 _ rfl, r9.cell 8 _ rfl, r9.cell 9 _ rfl, r9.cell 10 _ rfl, r9.cell 11 _ rfl, r9.cell 12 _ rfl, r9.cell 13 _ rfl, r9.cell 14 _ rfl]
      refine FN.mono (hf w9) ?_
      rintro _ w10 ⟨rfl, hE10⟩
      have r11 := r9.ext hE10
      cases hfb : fb r1 with
      | true =>
        have ho : readO (some (r1, [])) fb = some r1 := by simp [readO, hfb]
        rw [ho]
        simp
        refine FN.mono (must_t 180 w10) ?_
        rintro _ w11 ⟨⟨u11, rfl⟩, h11⟩
        subst h11
        simp [r11.cell 0 _ rfl, r11.cell 1 _ rfl, r11.cell 2 _ rfl, r11.cell 3 _ rfl, r11.cell 4 _ rfl, r11.cell 5 _ rfl, r11.cell 6 _ rfl, r11.cell 7 _ rfl, r11.cell 8 _ rfl, r11.cell 9 _ rfl, r11.cell 10 _ rfl, r11.cell 11 _ rfl, r11.cell 12 _ rfl, r11.cell 13 _ rfl, r11.cell 14 _ rfl, r11.thaw, setCell_id (r11.cell 0 _ rfl), setCell_id (r11.cell 1 _ rfl), setCell_id (r11.cell 2 _ rfl), setCell_id (r11.cell 3 _ rfl), setCell_id (r11.cell 4 _ rfl), setCell_id (r11.cell 5 _ rfl), setCell_id (r11.cell 6 _ rfl), setCell_id (r11.cell 7 _ rfl), setCell_id (r11.cell 8 _ rfl), setCell_id (r11.cell 9 _ rfl), setCell_id (r11.cell 10 _ rfl), setCell_id (r11.cell 11 _ rfl), setCell_id (r11.cell 12 _ rfl), setCell_id (r11.cell 13 _ rfl), setCell_id (r11.cell 14 _ rfl)]
        exact ⟨hEw9.trans hE10, rfl⟩
      | false =>
        have ho : readO (some (r1, [])) fb = none := by simp [readO, hfb]
        rw [ho]
        simp
        refine FN.mono (must_f 180 w10) ?_
        rintro _ w11 ⟨rfl, h11⟩
        subst h11
        simp
        exact ⟨hEw9.trans hE10, rfl⟩
    | cons y ys =>
      have ho : readO (some (r1, y :: ys)) fb = none := by simp [readO]
      rw [ho]
      have hne : (((ys.length : Int) + 1) == 0) = false := by simp; omega
      simp [t9.cell 0 _ rfl, hne]
      refine FN.mono (must_f 180 w9) ?_
      rintro _ w11 ⟨rfl, h11⟩
      subst h11
      simp
      exact ⟨hEw9, rfl⟩
end Go.Proofs
namespace Go.Proofs
open Pk
set_option maxRecDepth 10000
set_option maxHeartbeats 2000000 in
theorem bareI_c {fl fr ff : Nat} {s : ByteArray} {r r1 : Rec} {l : List It} (hk : mget kdL r.kind = some [.string s, fnV fl, fnV fr, fnV ff]) (hk0 : 0 ≤ r.kind ∧ r.kind ≤ 5) (hl : LaysI fl r l) (hl0 : 0 < l.length) (hn : l.length ≤ 1000) (hnn : ∀ y ∈ l, 0 ≤ y.n)
    (hread : ReadsI fr r.kind l (some (r1, []))) (hfine : Fines ff r1 true) (w : World) :
    FN Tryz.prog 31 [agE [.string s, fnV fl, fnV fr, fnV ff], recV r] w fun e w' => e = .returned (.bool (decide (r1 = r))) ∧ Ext w w' := by
  refine FN_enter Tryz.func31 rfl rfl (by kernel_rfl) ?_
  simp
  have hE1 : Ext w ((((w.alloc (.cells #[.string s, fnV fl, fnV fr, fnV ff] 71)).alloc (.cells #[i64 r.kind, u32 r.nn, u32 r.ns, u64 r.nt, u32 r.nq, i64 r.what, i64 r.why, u64 r.at', u64 r.num, u32 r.node, u32 r.reg, .bool r.yes, u64 r.fro, u64 r.til, u8 r.lev] 30)).alloc (.cells #[.bool false] 4)).alloc (.cells #[i64 0] 32)) := ((((Ext.refl w).alloc _).alloc _).alloc _).alloc _
  have o2 : Blk ((((w.alloc (.cells #[.string s, fnV fl, fnV fr, fnV ff] 71)).alloc (.cells #[i64 r.kind, u32 r.nn, u32 r.ns, u64 r.nt, u32 r.nq, i64 r.what, i64 r.why, u64 r.at', u64 r.num, u32 r.node, u32 r.reg, .bool r.yes, u64 r.fro, u64 r.til, u8 r.lev] 30)).alloc (.cells #[.bool false] 4)).alloc (.cells #[i64 0] 32)) w.heap.size [.string s, fnV fl, fnV fr, fnV ff] := (Blk.new w _ _).ext ((((Ext.refl _).alloc _).alloc _).alloc _)
  have o3 : Blk ((((w.alloc (.cells #[.string s, fnV fl, fnV fr, fnV ff] 71)).alloc (.cells #[i64 r.kind, u32 r.nn, u32 r.ns, u64 r.nt, u32 r.nq, i64 r.what, i64 r.why, u64 r.at', u64 r.num, u32 r.node, u32 r.reg, .bool r.yes, u64 r.fro, u64 r.til, u8 r.lev] 30)).alloc (.cells #[.bool false] 4)).alloc (.cells #[i64 0] 32)) (w.heap.size + 1) (recC r) := by
    have := (Blk.new (w.alloc (.cells #[.string s, fnV fl, fnV fr, fnV ff] 71)) (recC r) 30).ext (((Ext.refl _).alloc (.cells #[.bool false] 4)).alloc (.cells #[i64 0] 32))
    simpa using this
  have o4 : Blk ((((w.alloc (.cells #[.string s, fnV fl, fnV fr, fnV ff] 71)).alloc (.cells #[i64 r.kind, u32 r.nn, u32 r.ns, u64 r.nt, u32 r.nq, i64 r.what, i64 r.why, u64 r.at', u64 r.num, u32 r.node, u32 r.reg, .bool r.yes, u64 r.fro, u64 r.til, u8 r.lev] 30)).alloc (.cells #[.bool false] 4)).alloc (.cells #[i64 0] 32)) (w.heap.size + 1 + 1) [.bool false] := by
    have := (Blk.new ((w.alloc (.cells #[.string s, fnV fl, fnV fr, fnV ff] 71)).alloc (.cells #[i64 r.kind, u32 r.nn, u32 r.ns, u64 r.nt, u32 r.nq, i64 r.what, i64 r.why, u64 r.at', u64 r.num, u32 r.node, u32 r.reg, .bool r.yes, u64 r.fro, u64 r.til, u8 r.lev] 30)) [.bool false] 4).ext ((Ext.refl _).alloc (.cells #[i64 0] 32))
    simpa using this
  have z1 : ((((w.alloc (.cells #[.string s, fnV fl, fnV fr, fnV ff] 71)).alloc (.cells #[i64 r.kind, u32 r.nn, u32 r.ns, u64 r.nt, u32 r.nq, i64 r.what, i64 r.why, u64 r.at', u64 r.num, u32 r.node, u32 r.reg, .bool r.yes, u64 r.fro, u64 r.til, u8 r.lev] 30)).alloc (.cells #[.bool false] 4)).alloc (.cells #[i64 0] 32)).heap.size = w.heap.size + 1 + 1 + 1 + 1 := by simp
  generalize ((((w.alloc (.cells #[.string s, fnV fl, fnV fr, fnV ff] 71)).alloc (.cells #[i64 r.kind, u32 r.nn, u32 r.ns, u64 r.nt, u32 r.nq, i64 r.what, i64 r.why, u64 r.at', u64 r.num, u32 r.node, u32 r.reg, .bool r.yes, u64 r.fro, u64 r.til, u8 r.lev] 30)).alloc (.cells #[.bool false] 4)).alloc (.cells #[i64 0] 32)) = w1 at *
  refine WC_drawC 5 (.F 0 <| .F 1 <| .F 4 <| .C 2 <| .C 3 <| .Z) (fun _ => false) rfl (by kernel_rfl) fun W hW => ?_
  have hWE : Ext w1 W := hW ▸ Ext.drew w1
  have p2 := o2.ext hWE
  have p3 := o3.ext hWE
  simp [p2.cell 0 _ rfl, p2.cell 1 _ rfl, p2.cell 2 _ rfl, p2.cell 3 _ rfl, p3.cell 0 _ rfl, p3.cell 1 _ rfl, p3.cell 2 _ rfl, p3.cell 3 _ rfl, p3.cell 4 _ rfl, p3.cell 5 _ rfl, p3.cell 6 _ rfl, p3.cell 7 _ rfl, p3.cell 8 _ rfl, p3.cell 9 _ rfl, p3.cell 10 _ rfl, p3.cell 11 _ rfl, p3.cell 12 _ rfl, p3.cell 13 _ rfl, p3.cell 14 _ rfl]
  refine FN.mono (laidI_c hl hl0 hn ⟨hk0.1, by omega⟩ W) ?_
  rintro _ w2 ⟨v, rfl, ⟨va, vm, vc, rfl⟩, hI, hE2⟩
  simp
  refine KR_ext hE2 ?_
  simp
  have hrd := readI_c (fb := fun _ => true) (ItP.any hI) rfl rfl rfl hk0 (fun y hy => by
    rcases List.mem_cons.1 hy with rfl | hy
    · exact hk0.1
    · exact hnn y hy) hk hread (fun r' rest h => by cases h; exact hfine)
  refine FN.mono hrd ?_
  rintro e3 w3 ⟨hE3, hp3⟩
  have ho : readO (some (r1, [])) (fun _ => true) = some r1 := rfl
  rw [ho] at hp3
  obtain rfl : e3 = _ := hp3
  simp
  refine KR_ext hE3 ?_
  have p4 := o4.ext (hWE.trans (hE2.trans hE3))
  have hq := eqRec r1 r w3
  simp [hq, p4.cell 0 _ rfl, p4.thaw]
  have hM : Mod (fun k => k = w.heap.size + 1 + 1) w3 (w3.setCell ⟨w.heap.size + 1 + 1, 0, none⟩ (.bool (decide (r1 = r)))) := (Mod.refl _ _).setC _ _
  have q4 := p4.set 0 (.bool (decide (r1 = r)))
  generalize (w3.setCell ⟨w.heap.size + 1 + 1, 0, none⟩ (.bool (decide (r1 = r)))) = w4 at *
  simp only [List.set_cons_zero] at q4
  refine LV_caught ?_
  simp [q4.cell 0 _ rfl]
  exact (((hE1.trans (hWE.trans (hE2.trans hE3))).mod (S := fun k => w.heap.size ≤ k)).trans (hM.weaken fun k hk => by omega)).ext fun _ h => h
end Go.Proofs
namespace Go.Proofs
open Pk
set_option maxRecDepth 10000
theorem kd_none {r : Nat} {w : World} (hm : MapAt (Value.int .i64) agE w r kdL) {k : Int} (hk : mget kdL k = none) (W : World) (hW : Ext w W) :
    (Instr.lookup 72 (.map (some r)) (i64 k) true).run Tryz.prog W = .ok (.tuple #[agE [.string ⟨#[]⟩, .nilFunc, .nilFunc, .nilFunc], .bool false]) W := by
  have := (hm.ext hW).lookup (P := Tryz.prog) krk tkd (zkd W) k true
  rw [hk] at this
  simpa using this
set_option maxHeartbeats 2000000 in
theorem check_x {r : Rec} (hk : mget kdL r.kind = none) (w : World) :
    FN Tryz.prog 10 [recV r] w fun e w' => e = .returned (i64 2) ∧ Ext w w' := by
  refine FN_enter Tryz.func10 rfl rfl (by kernel_rfl) ?_
  simp
  have hE1 : Ext w (w.alloc (.cells #[i64 r.kind, u32 r.nn, u32 r.ns, u64 r.nt, u32 r.nq, i64 r.what, i64 r.why, u64 r.at', u64 r.num, u32 r.node, u32 r.reg, .bool r.yes, u64 r.fro, u64 r.til, u8 r.lev] 30)) := (Ext.refl w).alloc _
  have o1 : Blk (w.alloc (.cells #[i64 r.kind, u32 r.nn, u32 r.ns, u64 r.nt, u32 r.nq, i64 r.what, i64 r.why, u64 r.at', u64 r.num, u32 r.node, u32 r.reg, .bool r.yes, u64 r.fro, u64 r.til, u8 r.lev] 30)) w.heap.size (recC r) := Blk.new w (recC r) 30
  generalize (w.alloc (.cells #[i64 r.kind, u32 r.nn, u32 r.ns, u64 r.nt, u32 r.nq, i64 r.what, i64 r.why, u64 r.at', u64 r.num, u32 r.node, u32 r.reg, .bool r.yes, u64 r.fro, u64 r.til, u8 r.lev] 30)) = w1 at *
  refine WC_drawL 9 (.F 1 <| .F 2 <| .D 7 <| .L 0 <| .L 3 <| .F 4 <| .F 5 <| .F 6 <| .W 7 <| .S 8 <| .Z) (fun _ => false) (fun _ => false) (fun _ u W => ∃ j, u = ptr j ∧ w1.heap.size ≤ j ∧ Blk W j [.string ⟨#[]⟩, .nilFunc, .nilFunc, .nilFunc]) rfl (by kernel_rfl) (fun _ h => h)
    (fun _ _ _ _ ⟨j, h1, h2, h3⟩ hA => ⟨j, h1, h2, h3.ext (agr_ext hA)⟩) fun W hW => ?_
  have hWE : Ext w1 W := hW ▸ Ext.drew w1
  have r2 := o1.ext hWE
  simp [r2.cell 0 _ rfl]
  refine RL_float (fun W' h' => ?_) ?_
  · simp
    have hs := (hWE.trans (agr_ext h')).size
    exact ⟨(Ext.refl _).alloc _, hs, Blk.new W' [.string ⟨#[]⟩, .nilFunc, .nilFunc, .nilFunc] 71⟩
  simp
  refine RL_loose fun W3 h3 => ?_
  simp
  refine FN.mono (kinds_c W3) ?_
  rintro _ W4 ⟨mr, rfl, hm, hE4⟩
  simp
  refine KR_ext hE4 ?_
  simp
  refine RL_loose fun W5 h5 => ?_
  simp [kd_none hm hk W5 h5]
  refine KR_same ?_
  simp
  refine RL_wait fun v6 W6 h6 ⟨j, hj, hjs, hjb⟩ => ?_
  subst hj
  simp [hjb.cell 0 _ rfl, hjb.cell 1 _ rfl, hjb.cell 2 _ rfl, hjb.cell 3 _ rfl, hjb.thaw, cell_setCell]
  have hM7 : Mod (fun i => i = j) W6 ((((W6.setCell ⟨j, 0, none⟩ (.string ⟨#[]⟩)).setCell ⟨j, 1, none⟩ .nilFunc).setCell ⟨j, 2, none⟩ .nilFunc).setCell ⟨j, 3, none⟩ .nilFunc) := ((((Mod.refl _ W6).setC 0 _).setC 1 _).setC 2 _).setC 3 _
  refine KR_mk (agr_any (hM7.weaken fun _ _ => trivial)) ?_
  have hE56 := hWE.trans (h3.trans (hE4.trans (h5.trans h6)))
  have hsz1 := hE1.size
  have hEw7 : Ext w ((((W6.setCell ⟨j, 0, none⟩ (.string ⟨#[]⟩)).setCell ⟨j, 1, none⟩ .nilFunc).setCell ⟨j, 2, none⟩ .nilFunc).setCell ⟨j, 3, none⟩ .nilFunc) := (((hE1.trans hE56).mod (S := fun j => w.heap.size ≤ j)).trans (hM7.weaken fun i hi => by omega)).ext fun _ h => h
  simp
  exact hEw7
/-- Which reports may be. -/
def repF (r : Rec) : Bool := decide (nameE (namR r) = 0) && (decide (1 ≤ r.what) && (decide (r.what ≤ 4) && (decide (0 ≤ r.why) && (decide (r.why < 6) && (decide (r.what = 4) == decide (0 < r.why))))))
theorem rep_fine (r : Rec) : Fines 107 r (repF r) := by
  intro w
  refine FN_enter Tryz.func107 rfl rfl (by kernel_rfl) ?_
  simp
  have hE1 : Ext w (w.alloc (.cells #[i64 r.kind, u32 r.nn, u32 r.ns, u64 r.nt, u32 r.nq, i64 r.what, i64 r.why, u64 r.at', u64 r.num, u32 r.node, u32 r.reg, .bool r.yes, u64 r.fro, u64 r.til, u8 r.lev] 30)) := (Ext.refl w).alloc _
  have o1 : Blk (w.alloc (.cells #[i64 r.kind, u32 r.nn, u32 r.ns, u64 r.nt, u32 r.nq, i64 r.what, i64 r.why, u64 r.at', u64 r.num, u32 r.node, u32 r.reg, .bool r.yes, u64 r.fro, u64 r.til, u8 r.lev] 30)) w.heap.size (recC r) := Blk.new w (recC r) 30
  generalize (w.alloc (.cells #[i64 r.kind, u32 r.nn, u32 r.ns, u64 r.nt, u32 r.nq, i64 r.what, i64 r.why, u64 r.at', u64 r.num, u32 r.node, u32 r.reg, .bool r.yes, u64 r.fro, u64 r.til, u8 r.lev] 30)) = w1 at *
  refine FN.mono (checkName_c (namR r) w1) ?_
  rintro _ w2 ⟨rfl, hE2⟩
  have p := o1.ext hE2
  have hX := hE1.trans hE2
  unfold repF
  by_cases g1 : nameE (namR r) = 0
  · by_cases g2 : 1 ≤ r.what
    · by_cases g3 : r.what ≤ 4
      · by_cases g4 : 0 ≤ r.why
        · by_cases g5 : r.why < 6
          · by_cases g6 : r.what = 4
            · by_cases g7 : 0 < r.why <;> simp [g1, g4, g5, g6, g7, p.cell 5 _ rfl, p.cell 6 _ rfl] <;> exact hX
            · by_cases g7 : 0 < r.why <;> simp [beq_dec, g1, g2, g3, g4, g5, g6, g7, p.cell 5 _ rfl, p.cell 6 _ rfl] <;> exact hX
          · simp [g1, g2, g3, g4, g5, p.cell 5 _ rfl, p.cell 6 _ rfl]; exact hX
        · simp [g1, g2, g3, g4, p.cell 5 _ rfl, p.cell 6 _ rfl]; exact hX
      · simp [g1, g2, g3, p.cell 5 _ rfl]; exact hX
    · simp [g1, g2, p.cell 5 _ rfl]; exact hX
  · simp [beq_dec, g1]; exact hX
end Go.Proofs
namespace Go.Proofs
open Pk
set_option maxRecDepth 10000
/-- What a Kind names alone. -/
def repB (r : Rec) : Rec := { rec0 with kind := r.kind, nn := r.nn, ns := r.ns, nt := r.nt, nq := r.nq, what := r.what, why := r.why, at' := r.at' }
def askBr (r : Rec) : Rec := { rec0 with kind := r.kind, num := r.num, node := r.node, reg := r.reg }
def memB (r : Rec) : Rec := { rec0 with kind := r.kind, num := r.num, node := r.node, reg := r.reg, yes := r.yes }
theorem upI_cons {x : It} {l : List It} {bd : Int} (h1 : x.k = 1) (h2 : x.n ≤ bd) : upI (x :: l) bd = some (x.n, l) := if_pos ⟨h1, h2⟩
theorem yesI_cons (u : Bool) (l : List It) : yesI (boolI u :: l) = some (u, l) := by
  unfold yesI boolI
  cases u <;> rfl
theorem rdAsk_I {r r0 : Rec} (hr : RecOk r) (h : r.num ≤ 4294967295) : rdAsk r0 (askI r) = some ({ r0 with num := r.num, node := r.node, reg := r.reg }, []) := by
  unfold rdAsk askI
  rw [upI_cons rfl (show (uintI r.num).n ≤ _ from h), Option.bind_some, upI_cons rfl (show (uintI r.node).n ≤ _ from hr.node.2), Option.bind_some, upI_cons rfl (show (uintI r.reg).n ≤ _ from hr.reg.2), Option.bind_some]
  rfl
theorem rdMem_I {r r0 : Rec} (hr : RecOk r) (h : r.num ≤ 4294967295) : rdMem r0 (memI r) = some ({ r0 with node := r.node, reg := r.reg, num := r.num, yes := r.yes }, []) := by
  unfold rdMem memI
  rw [upI_cons rfl (show (uintI r.node).n ≤ _ from hr.node.2), Option.bind_some, upI_cons rfl (show (uintI r.reg).n ≤ _ from hr.reg.2), Option.bind_some, upI_cons rfl (show (uintI r.num).n ≤ _ from h), Option.bind_some, yesI_cons, Option.bind_some]
  rfl
theorem rdTell_I {r r0 : Rec} (hr : RecOk r) (h : r.num ≤ 4294967295) (ht : r.til ≤ 4611686018427387903) : rdTell r0 (tellI r) = some ({ r0 with num := r.num, node := r.node, reg := r.reg, yes := r.yes, til := r.til }, []) := by
  unfold rdTell tellI
  rw [upI_cons rfl (show (uintI r.num).n ≤ _ from h), Option.bind_some, upI_cons rfl (show (uintI r.node).n ≤ _ from hr.node.2), Option.bind_some, upI_cons rfl (show (uintI r.reg).n ≤ _ from hr.reg.2), Option.bind_some, yesI_cons, Option.bind_some, upI_cons rfl (show (uintI r.til).n ≤ _ from ht), Option.bind_some]
  rfl
theorem rdFore_I {r r0 : Rec} (hr : RecOk r) (hf : r.fro ≤ 4611686018427387903) (ht : r.til ≤ 4611686018427387903) (hl : r.lev ≤ 3) : rdFore r0 (foreI r) = some ({ r0 with node := r.node, fro := r.fro, til := r.til, lev := r.lev }, []) := by
  unfold rdFore foreI
  rw [upI_cons rfl (show (uintI r.node).n ≤ _ from hr.node.2), Option.bind_some, upI_cons rfl (show (uintI r.fro).n ≤ _ from hf), Option.bind_some, upI_cons rfl (show (uintI r.til).n ≤ _ from ht), Option.bind_some, upI_cons rfl (show (uintI r.lev).n ≤ _ from hl), Option.bind_some]
  rfl
/-! ### A name's item is read as it -/
theorem numsOf_nameI (n : Nam) (h : n.nn ≠ 0) : numsOf (nameI n) = [n.nt, n.nq, 2, n.nn, n.ns] := by
  unfold numsOf numsY nameI endI
  rw [if_neg h]
  simp [uintsOf, listI, uintI, It.k, It.l, It.n]
theorem namN_nameI (n : Nam) (hn : NamOk n) (h : n.nn ≠ 0) : namN (nameI n) = n := by
  unfold namN
  rw [numsOf_nameI n h]
  obtain ⟨a, b, c, d⟩ := n
  unfold namOfL
  have e1 := wrap32u a hn.nn.1 hn.nn.2
  have e2 := wrap32u b hn.ns.1 hn.ns.2
  have e3 := wrap32u d hn.nq.1 hn.nq.2
  simp [e1, e2, e3]
theorem namF_nameI (n : Nam) (hn : NamOk n) (h : nameE n = 0) : namF (nameI n) = true := by
  have h0 : n.nn ≠ 0 := by
    intro e
    unfold nameE at h
    rw [if_pos e] at h
    cases h
  unfold namF
  rw [namN_nameI n hn h0]
  simp [h]
theorem numsOf_nameI_len (n : Nam) (h : n.nn ≠ 0) : (numsOf (nameI n)).length ≤ 1000000 := by rw [numsOf_nameI n h]; simp
/-! ### Check -/
def fineR (r : Rec) : Bool := if r.kind = 1 then repF r else if r.kind = 4 then foreF r else decide (0 < min r.node r.reg)
def bareR (r : Rec) : Rec := if r.kind = 1 then repB r else if r.kind = 2 then askBr r else if r.kind = 3 then tellB r else if r.kind = 4 then foreB r else memB r
def partsR (r : Rec) : List It := if r.kind = 1 then repI r else if r.kind = 2 then askI r else if r.kind = 3 then tellI r else if r.kind = 4 then foreI r else memI r
def itemR (r : Rec) : It := listI (uintI r.kind :: partsR r)
def rightE (r : Rec) : Int := if 1 ≤ r.kind ∧ r.kind ≤ 5 then chk r (fineR r) (decide (bareR r = r)) else 2
theorem nn_leaf {l : List It} (h : ∀ x ∈ l, (∃ n, x = uintI n ∧ 0 ≤ n) ∨ ∃ u, x = boolI u) : ∀ y ∈ l, 0 ≤ y.n := by
  intro y hy
  rcases h y hy with ⟨n, rfl, hn⟩ | ⟨u, rfl⟩
  · exact hn
  · unfold boolI It.n; cases u <;> simp
theorem check_ask {r : Rec} (hr : RecOk r) (hk2 : r.kind = 2) (w : World) : FN Tryz.prog 10 [recV r] w fun e w' => e = .returned (i64 (chk r (decide (0 < min r.node r.reg)) (decide (askBr r = r)))) ∧ Ext w w' := by
  have hk : mget kdL r.kind = some [.string ⟨#[97, 115, 107]⟩, fnV 58, fnV 61, fnV 64] := by rw [hk2]; rfl
  refine check_t (fb := decide (0 < min r.node r.reg)) (bb := decide (askBr r = r)) hk (there_c r) (fun hf hn ht w => ?_) w
  have hf' := there_c (askBr r)
  have e : decide (0 < min (askBr r).node (askBr r).reg) = true := hf
  rw [e] at hf'
  refine bareI_c hk (by omega) (ask_layI hr) (by simp [askI]) (by simp [askI]) (nn_leaf (by simp [askI]; exact ⟨.inl ⟨_, rfl, hr.num.1⟩, .inl ⟨_, rfl, hr.node.1⟩, .inl ⟨_, rfl, hr.reg.1⟩⟩)) ?_ hf' w
  intro w0 w' b rb h hR hrb hne
  have := rdAsk_c h hR hrb hne
  rw [rdAsk_I hr (by omega)] at this
  exact this
theorem check_mem {r : Rec} (hr : RecOk r) (hk5 : r.kind = 5) (w : World) : FN Tryz.prog 10 [recV r] w fun e w' => e = .returned (i64 (chk r (decide (0 < min r.node r.reg)) (decide (memB r = r)))) ∧ Ext w w' := by
  have hk : mget kdL r.kind = some [.string ⟨#[109, 101, 109, 98, 101, 114]⟩, fnV 76, fnV 77, fnV 64] := by rw [hk5]; rfl
  refine check_t (fb := decide (0 < min r.node r.reg)) (bb := decide (memB r = r)) hk (there_c r) (fun hf hn ht w => ?_) w
  have hf' := there_c (memB r)
  have e : decide (0 < min (memB r).node (memB r).reg) = true := hf
  rw [e] at hf'
  refine bareI_c hk (by omega) (mem_layI hr) (by simp [memI]) (by simp [memI]) (nn_leaf (by simp [memI]; exact ⟨.inl ⟨_, rfl, hr.node.1⟩, .inl ⟨_, rfl, hr.reg.1⟩, .inl ⟨_, rfl, hr.num.1⟩, .inr (by cases r.yes <;> simp)⟩)) ?_ hf' w
  intro w0 w' b rb h hR hrb hne
  have := rdMem_c h hR hrb hne
  rw [rdMem_I hr (by omega)] at this
  exact this
theorem repF_inv {r : Rec} (h : repF r = true) : nameE (namR r) = 0 ∧ 1 ≤ r.what ∧ r.what ≤ 4 ∧ 0 ≤ r.why ∧ r.why < 6 := by
  unfold repF at h
  simp only [Bool.and_eq_true, decide_eq_true_eq] at h
  exact ⟨h.1, h.2.1, h.2.2.1, h.2.2.2.1, h.2.2.2.2.1⟩
theorem nameE_inv {n : Nam} (h : nameE n = 0) : n.nn ≠ 0 ∧ n.nt ≤ 4611686018427387903 := by
  unfold nameE at h
  split at h
  · cases h
  · split at h
    · cases h
    · constructor <;> omega
theorem check_rep {r : Rec} (hr : RecOk r) (hk1 : r.kind = 1) (w : World) : FN Tryz.prog 10 [recV r] w fun e w' => e = .returned (i64 (chk r (repF r) (decide (repB r = r)))) ∧ Ext w w' := by
  have hk : mget kdL r.kind = some [.string ⟨#[114, 101, 112, 111, 114, 116]⟩, fnV 101, fnV 104, fnV 107] := by rw [hk1]; rfl
  refine check_t (fb := repF r) (bb := decide (repB r = r)) hk (rep_fine r) (fun hf hn ht w => ?_) w
  have hf' := rep_fine (repB r)
  have e : repF (repB r) = true := hf
  rw [e] at hf'
  obtain ⟨i1, i2, i3, i4, i5⟩ := repF_inv hf
  obtain ⟨j1, j2⟩ := nameE_inv i1
  have hno : NamOk (namR r) := ⟨hr.nn, hr.ns, hr.nq⟩
  refine bareI_c hk (by omega) (rep_layI hr i1 (by omega) i4) (by simp [repI]) (by simp [repI]) ?_ ?_ hf' w
  · intro y hy
    simp only [repI, List.mem_cons, List.not_mem_nil, or_false] at hy
    rcases hy with rfl | rfl | rfl | rfl
    · simp [nameI, listI, It.n]
    · exact (show 0 ≤ r.what by omega)
    · exact i4
    · exact hr.at'.1
  · intro w0 w' b rb h hR hrb hne
    have := rdRep_t (r := { rec0 with kind := r.kind }) (x := nameI (namR r)) (l := [uintI r.what, uintI r.why, uintI r.at']) h hR hrb hne (namF_nameI _ hno i1) (numsOf_nameI_len _ j1)
      (upI_cons rfl (show (uintI r.what).n ≤ _ by exact i3)) (upI_cons rfl (show (uintI r.why).n ≤ _ from (show r.why ≤ 6 by omega))) (upI_cons rfl (show (uintI r.at').n ≤ _ from (times3 ht).1))
    rw [namN_nameI _ hno j1] at this
    exact this
theorem check_c {r : Rec} (hr : RecOk r) (w : World) : FN Tryz.prog 10 [recV r] w fun e w' => e = .returned (i64 (rightE r)) ∧ Ext w w' := by
  by_cases hk : 1 ≤ r.kind ∧ r.kind ≤ 5
  · have hcase : r.kind = 1 ∨ r.kind = 2 ∨ r.kind = 3 ∨ r.kind = 4 ∨ r.kind = 5 := by omega
    unfold rightE
    rw [if_pos hk]
    unfold fineR bareR
    rcases hcase with h | h | h | h | h
    · rw [if_pos h, if_pos h]; exact check_rep hr h w
    · rw [if_neg (by omega), if_neg (by omega), if_neg (by omega), if_pos h]; exact check_ask hr h w
    · rw [if_neg (by omega), if_neg (by omega), if_neg (by omega), if_neg (by omega), if_pos h]; exact check_tell hr h w
    · rw [if_neg (by omega), if_pos h, if_neg (by omega), if_neg (by omega), if_neg (by omega), if_pos h]; exact check_fore hr h w
    · rw [if_neg (by omega), if_neg (by omega), if_neg (by omega), if_neg (by omega), if_neg (by omega), if_neg (by omega)]; exact check_mem hr h w
  · unfold rightE
    rw [if_neg hk]
    refine check_x ?_ w
    have h1 : ¬ r.kind = 1 := by omega
    have h2 : ¬ r.kind = 2 := by omega
    have h3 : ¬ r.kind = 3 := by omega
    have h4 : ¬ r.kind = 4 := by omega
    have h5 : ¬ r.kind = 5 := by omega
    simp only [mget, kdL, List.find?_cons, List.find?_nil]
    rw [decide_eq_false (fun e => h1 e.symm), decide_eq_false (fun e => h2 e.symm), decide_eq_false (fun e => h3 e.symm), decide_eq_false (fun e => h4 e.symm), decide_eq_false (fun e => h5 e.symm)]
    rfl
end Go.Proofs
