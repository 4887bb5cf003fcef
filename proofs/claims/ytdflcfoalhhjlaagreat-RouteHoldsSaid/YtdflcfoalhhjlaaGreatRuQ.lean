/-
 Contracts of the functions that the law reaches,step by step.
-/
import Derived.Test.YtdflcfoalhhjlaaGreatRuN
namespace Go.Proofs
open Pk
set_option maxRecDepth 10000
theorem gbest_z {w : World} {nv : Value} {q : Qu} (hn : ∃ a n c, nv = .slice a n c) : FN Tryz.prog 36 [.pointer none, quV q nv] w fun e w' => e = .returned (.tuple #[wyV wyZ, i64 1]) ∧ Ext w w' :=
 gbest_n hn ⟨_,rfl⟩ fun w' _ => gnone_n w'
theorem next_n {w : World} {s : Nat} {nv : Value} {q : Qu} {til : Int} (hn : ∃ a n c, nv = .slice a n c) (hs : Blk w s (seC q nv til)) : FN Tryz.prog 40 [ptr s, .pointer none] w fun e w' => e = .returned (.tuple #[wyV wyZ, .bool false]) ∧ Ext w w' := by
 refine FN_enter Tryz.func40 rfl rfl (by kernel_rfl) ?_
 obtain ⟨na,nl,nc,rfl⟩ := hn
 have hE1 : Ext w (w.alloc (.cells #[u64 0,i64 0,u32 0,u32 0,u32 0,u64 0,u64 0,u64 0] 66)) := (Ext.refl w).alloc _
 have k1 : Blk (w.alloc (.cells #[u64 0, i64 0, u32 0, u32 0, u32 0, u64 0, u64 0, u64 0] 66)) w.heap.size (wyC wyZ) := by
  have := Blk.new w (wyC wyZ) 66
  simp [wyZ] at this
  exact this
 simp
 generalize (w.alloc (.cells #[u64 0,i64 0,u32 0,u32 0,u32 0,u64 0,u64 0,u64 0] 66)) = w1 at *
 refine WC_scope 0 _ rfl ?_
 have s1 := hs.ext hE1
 simp [(s1).cell 0 _ rfl,(s1).cell 1 _ rfl,(s1).cell 2 _ rfl,(s1).cell 3 _ rfl,(s1).cell 4 _ rfl,(s1).cell 5 _ rfl]
 refine FN.mono (gbest_z (w := w1) (q := q) (nv := (Value.slice na nl nc)) ⟨_,_,_,rfl⟩) ?_
 rintro _ w2 ⟨rfl,hE2⟩
 have k2 := k1.ext hE2
 have hX2 := hE1.trans hE2
 have hM := put8_mod w2 w.heap.size (u64 wyZ.a) (i64 wyZ.h) (u32 wyZ.n) (u32 wyZ.f.fr) (u32 wyZ.f.to') (u64 wyZ.f.sf) (u64 wyZ.f.su) (u64 wyZ.f.rate)
 have hB := put8_blk k2 rfl (u64 wyZ.a) (i64 wyZ.h) (u32 wyZ.n) (u32 wyZ.f.fr) (u32 wyZ.f.to') (u64 wyZ.f.sf) (u64 wyZ.f.su) (u64 wyZ.f.rate)
 simp [(k2).cell 0 _ rfl,(k2).cell 1 _ rfl,(k2).cell 2 _ rfl,(k2).cell 3 _ rfl,(k2).cell 4 _ rfl,(k2).cell 5 _ rfl,(k2).cell 6 _ rfl,(k2).cell 7 _ rfl,k2.thaw,cell_setCell]
 generalize World.setCell _ ⟨w.heap.size,7,none⟩ _ = w3 at *
 have hX3 : Ext w w3 := (hX2.mod (S := fun k => w.heap.size ≤ k)).trans (hM.weaken fun k hk => by omega) |>.ext fun _ h => h
 have hB : Blk w3 w.heap.size (wyC wyZ) := hB
 refine WC_drawC 9 (.F 0 <| .F 1 <| .F 2 <| .F 3 <| .F 4 <| .F 5 <| .F 6 <| .F 7 <| .F 8 <| .Z) (fun _ => false) rfl (by kernel_rfl) fun W hW => ?_
 have hEW : Ext w3 W := hW ▸ Ext.drew w3
 have kW := hB.ext hEW
 have hXW := hX3.trans hEW
 have hM8 := put8_mod W w.heap.size (u64 0) (i64 0) (u32 0) (u32 0) (u32 0) (u64 0) (u64 0) (u64 0)
 simp [(kW).cell 0 _ rfl,(kW).cell 1 _ rfl,(kW).cell 2 _ rfl,(kW).cell 3 _ rfl,(kW).cell 4 _ rfl,(kW).cell 5 _ rfl,(kW).cell 6 _ rfl,(kW).cell 7 _ rfl,kW.thaw,cell_setCell]
 generalize World.setCell _ ⟨w.heap.size,7,none⟩ _ = W8 at *
 exact ⟨⟨rfl,rfl,rfl,rfl,rfl,rfl,rfl,rfl⟩,((hXW.mod (S := fun k => w.heap.size ≤ k)).trans (hM8.weaken fun k hk => by omega)).ext fun _ h => h⟩
theorem each_itN {w : World} {bg bq bt : Nat} {nv : Value} {q : Qu} {til : Int} (hg : Var w bg (.pointer none)) (hq : Blk w bq (quC q nv)) (ht : Var w bt (u64 til)) (hn : ∃ a n c, nv = .slice a n c) :
  Iter Tryz.prog (.func (.func 39) #[] #[ptr bq,ptr bt,ptr bg]) (fun x : Tl => [wyV (tlWy x)]) (fun xs => xs = []) (fun _ => False) (fun k => k = bg ∨ k = bq ∨ k = bt) w := by
 intro y C0 J Jx W hA hcap hC0 hJ hJx hyl h0
 have hg1 := hg.agr hA hg.lt
 have hq1 := hq.agr hA hq.lt
 have ht1 := ht.agr hA ht.lt
 refine FN_enter Tryz.func39 rfl rfl (by kernel_rfl) ?_
 obtain ⟨na,nl,nc,rfl⟩ := hn
 have hE : Ext W ((W.alloc (.cells #[u32 q.fr,u32 q.to',u64 q.at_,u64 q.size,i64 q.most,(Value.slice na nl nc),u64 til] 109)).alloc (.cells #[u64 til] 27)) := ((Ext.refl W).alloc _).alloc _
 have k1 : Blk ((W.alloc (.cells #[u32 q.fr,u32 q.to',u64 q.at_,u64 q.size,i64 q.most,(Value.slice na nl nc),u64 til] 109)).alloc (.cells #[u64 til] 27)) W.heap.size (seC q (Value.slice na nl nc) til) := (Blk.new W (seC q (Value.slice na nl nc) til) 109).ext ((Ext.refl _).alloc _)
 have hs1 : Sl ((W.alloc (.cells #[u32 q.fr, u32 q.to', u64 q.at_, u64 q.size, i64 q.most, (Value.slice na nl nc), u64 til] 109)).alloc (.cells #[u64 til] 27)) 1 (.slice (some ⟨W.heap.size + 1, 0, none⟩) 1 1) 1 ([til].map u64) := by
  have := Sl.made (W.alloc (.cells #[u32 q.fr,u32 q.to',u64 q.at_,u64 q.size,i64 q.most,(Value.slice na nl nc),u64 til] 109)) ([til].map u64) 27 1 1 rfl
  simpa using this
 refine WC_scope 0 _ rfl ?_
 simp [(hq1).cell 0 _ rfl,(hq1).cell 1 _ rfl,(hq1).cell 2 _ rfl,(hq1).cell 3 _ rfl,(hq1).cell 4 _ rfl,(hq1).cell 5 _ rfl,ht1.cell]
 generalize ((W.alloc (.cells #[u32 q.fr,u32 q.to',u64 q.at_,u64 q.size,i64 q.most,(Value.slice na nl nc),u64 til] 109)).alloc (.cells #[u64 til] 27)) = w1 at *
 refine FN.mono (ccheck_c (l := [til]) hs1 (by simp)) ?_
 rintro _ w2 ⟨rfl,hE2⟩
 have hX2 := hE.trans hE2
 have k2 := k1.ext hE2
 have g2 := hg1.ext hX2
 cases e0 : timesOk [til] with
 | false =>
  simp
  exact ⟨C0,hJ _ _ _ _ h0 hX2.agr⟩
 | true =>
  simp
  refine WC_loop (fun k ρ ds w' => k = 1 ∧ ρ 0 = y ∧ ρ 3 = ptr bg ∧ ρ 5 = ptr W.heap.size ∧ ds = [] ∧ w' = w2) 1 ⟨rfl,by simp,by simp,by simp,rfl,rfl⟩ ?_
  rintro k ρ ds w5 ⟨rfl,e0',e3,e5,rfl,rfl⟩
  simp [e3,e5,g2.cell]
  refine FN.mono (next_n (w := w5) ⟨_,_,_,rfl⟩ k2) ?_
  rintro _ w6 ⟨rfl,hE6⟩
  simp
  exact ⟨C0,hJ _ _ _ _ h0 ((hX2.trans hE6).trans ((Ext.refl w6).alloc _)).agr⟩
theorem rways_n {w : World} {nv : Value} {q : Qu} {til many : Int} (hn : ∃ a n c, nv = .slice a n c) : FN Tryz.prog 11 [.pointer none, quV q nv, u64 til, i64 many] w fun e w' => e = .returned (.tuple #[.slice none 0 0, i64 1]) ∧ Ext w w' := by
 refine FN_enter Tryz.func11 rfl rfl (by kernel_rfl) ?_
 obtain ⟨na,nl,nc,rfl⟩ := hn
 have hE : Ext w (((w.alloc (.cells #[u32 q.fr,u32 q.to',u64 q.at_,u64 q.size,i64 q.most,(Value.slice na nl nc)] 29)).alloc (.cells #[i64 many] 3)).alloc (.cells #[.slice none 0 0] 48)) := (((Ext.refl w).alloc _).alloc _).alloc _
 have o3 : Var (((w.alloc (.cells #[u32 q.fr, u32 q.to', u64 q.at_, u64 q.size, i64 q.most, (Value.slice na nl nc)] 29)).alloc (.cells #[i64 many] 3)).alloc (.cells #[.slice none 0 0] 48)) (w.heap.size + 1 + 1) (.slice none 0 0) := by
  have := Var.new ((w.alloc (.cells #[u32 q.fr,u32 q.to',u64 q.at_,u64 q.size,i64 q.most,(Value.slice na nl nc)] 29)).alloc (.cells #[i64 many] 3)) (.slice none 0 0) 48
  simpa using this
 simp
 generalize (((w.alloc (.cells #[u32 q.fr,u32 q.to',u64 q.at_,u64 q.size,i64 q.most,(Value.slice na nl nc)] 29)).alloc (.cells #[i64 many] 3)).alloc (.cells #[.slice none 0 0] 48)) = w1 at *
 refine FN.mono (gbest_z (w := w1) (q := q) (nv := (Value.slice na nl nc)) ⟨_,_,_,rfl⟩) ?_
 rintro _ w2 ⟨rfl,hE2⟩
 have hX2 := hE.trans hE2
 have o4 := o3.ext hE2
 simp [o4.cell,o4.thaw,(o4.set _).cell]
 exact (hX2.mod (S := fun k => w.heap.size ≤ k)).trans ((Mod.setCell (S := fun k => k = w.heap.size + 1 + 1) (Mod.refl _ w2) ⟨w.heap.size + 1 + 1,0,none⟩ (.slice none 0 0) (.inl rfl)).weaken fun k hk => by omega) |>.ext fun _ h => h
end Go.Proofs
namespace Go.Proofs
open Pk
set_option maxRecDepth 10000
theorem nil3_cell {w : World} {j o : Nat} {u : Value} (h : Blk w j [Value.slice none 0 0, Value.slice none 0 0, Value.slice none 0 0]) (hu : w.cell? ⟨j, o, none⟩ = some u) : u = .slice none 0 0 := by
 obtain ⟨t,h⟩ := h
 unfold World.cell? at hu
 rw [h] at hu
 simp at hu
 rcases o with _ | _ | _ | o <;> simp at hu
 ·exact hu.symm
 ·exact hu.symm
 ·exact hu.symm
theorem nil3_off {w : World} {j b : Nat} {u : Value} {us : List Value} (h : Blk w j [Value.slice none 0 0, Value.slice none 0 0, Value.slice none 0 0]) (hb : Blk w b (u :: us)) (hu : u ≠ .slice none 0 0 ∨ us.length ≠ 2) : b ≠ j := by
 rintro rfl
 obtain ⟨t,h⟩ := h
 obtain ⟨t',hb⟩ := hb
 rw [h] at hb
 simp at hb
 obtain ⟨⟨h1,h2⟩,-⟩ := hb
 rcases hu with hu | hu
 ·exact hu h1.symm
 ·rw [← h2] at hu; exact hu rfl
theorem nil3_map {κ ν : Type} {ek : κ → Value} {ew : ν → Value} {w : World} {j r : Nat} {m : List (κ × ν)} (h : Blk w j [Value.slice none 0 0, Value.slice none 0 0, Value.slice none 0 0]) (hm : MapAt ek ew w r m) : r ≠ j := by
 rintro rfl
 obtain ⟨t,h⟩ := h
 obtain ⟨⟨es,c,h1,-⟩,-⟩ := hm
 rw [h] at h1
 cases h1
theorem nil3_row {w : World} {j s n : Nat} {v : Value} {k : IntKind} {x : Int} {cs : List Value} (h : Blk w j [Value.slice none 0 0, Value.slice none 0 0, Value.slice none 0 0]) (hs : Sl w s v n cs) (h0 : cs[0]? = some (.int k x)) : slB v ≠ j := by
 intro e
 have := hs.at_ 0 _ h0
 rw [e] at this
 cases nil3_cell h this
theorem Made.zmod {w w' : World} {g j : Nat} {vp vt : Value} {P : List Ct} {S : List St} {L : List Ct} {M : ME} {m : VM} (h : Made w g vp vt P S L M m) (hj : Blk w j [Value.slice none 0 0, Value.slice none 0 0, Value.slice none 0 0]) (hM : Mod (fun k => k = j) w w') : Made w' g vp vt P S L M m := by
 have rowC : ∀ {v : Value} {l : List Ct}, Sl w 5 v l.length (l.flatMap ctC) → l ≠ [] → slB v ≠ j := fun {v l} hs hn => by
  cases l with
  | nil => exact (hn rfl).elim
  | cons c cs => exact nil3_row hj hs (k := .u32) (x := c.fr) (by simp)
 have rowS : ∀ {v : Value} {l : List St}, TRw w v l → l ≠ [] → slB v ≠ j := fun {v l} hs hn => by
  cases l with
  | nil => exact (hn rfl).elim
  | cons c cs => exact nil3_row hj hs (k := .u32) (x := c.f) (by simp [stCells])
 obtain ⟨p,v,t,R,q,r,hg⟩ := h.g
 have hg' := hg.mod hM (nil3_off hj hg.blk (.inl (by simp))) (nil3_off hj hg.plan.blk (.inr (by simp))) (rowC hg.plan.row)
  (fun k hk => by
   rcases hk with rfl | rfl | ⟨x, hx, rfl⟩
   ·intro e
    have := hg.tab.cnt
    rw [e] at this
    cases nil3_cell hj this
   ·exact nil3_map hj hg.tab.map
   ·exact nil3_map hj (hg.tab.inner x hx)) (nil3_off hj hg.led.blk (.inl (by simp))) (nil3_map hj hg.led.map)
 exact { h with g := ⟨p,v,t,R,q,r,hg'⟩,pl := Sl.keepN h.pl fun hn a u ha hu => hM.cell hu (by rw [ha]; exact rowC h.pl (flat_ne' hn)),tb := Sl.keepN h.tb fun hn a u ha hu => hM.cell hu (by rw [ha]; exact rowS h.tb (flat_ne' hn)) }
end Go.Proofs