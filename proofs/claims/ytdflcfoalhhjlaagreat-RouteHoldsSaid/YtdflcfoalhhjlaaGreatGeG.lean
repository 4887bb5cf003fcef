/-
 Contracts of the functions that the law reaches,step by step.
-/
import Derived.Test.YtdflcfoalhhjlaaGreatGeE
import Derived.Test.YtdflcfoalhhjlaaGreatEngV
namespace Go.Proofs
open Pk
set_option maxRecDepth 10000
abbrev RPl (w : World) (v : Value) (l : List Ct) := Sl w 5 v l.length (l.flatMap ctC)
theorem RPl.index {w : World} {v : Value} {l : List Ct} (h : RPl w v l) (i : Nat) (hi : i < l.length) (W : World) : (Instr.indexAt 22 v (.int .i64 (i : Int))).run Tryz.prog W = .ok (.pointer (some ⟨slB v, slO v + i * 5, none⟩)) W := by
 have := Sl.index (P := Tryz.prog) (t := 22) h (by simp) .i64 i (by omega) (by omega) W
 simpa using this
theorem tw_go {α : Type} (p : α → Bool) : ∀ (l : List α) (i : Nat) (h : i < l.length), i ≤ (l.takeWhile p).length → p l[i] = true → i + 1 ≤ (l.takeWhile p).length
 | x :: l, 0, _, _, hp => by
  have hp : p x = true := hp
  rw [List.takeWhile_cons,hp]; simp
 | x :: l, i + 1, h, hi, hp => by
  rw [List.takeWhile_cons] at hi ⊢
  cases hx : p x with
  | false => rw [hx] at hi; simp at hi
  | true =>
   rw [hx] at hi
   have := tw_go p l i (by simpa using h) (by simpa using hi) (by simpa using hp)
   simpa using this
theorem tw_stop {α : Type} (p : α → Bool) : ∀ (l : List α) (i : Nat) (h : i < l.length), i ≤ (l.takeWhile p).length → p l[i] = false → i = (l.takeWhile p).length
 | x :: l, 0, _, _, hp => by
  have hp : p x = false := hp
  rw [List.takeWhile_cons,hp]; simp
 | x :: l, i + 1, h, hi, hp => by
  rw [List.takeWhile_cons] at hi ⊢
  cases hx : p x with
  | false => rw [hx] at hi; simp at hi
  | true =>
   rw [hx] at hi
   have := tw_stop p l i (by simpa using h) (by simpa using hi) (by simpa using hp)
   simpa using this
theorem cts_one (l : List Ct) : ∀ u ∈ l.flatMap ctC, u.oneCell' = true := by
 intro u hu
 obtain ⟨x,-,hx⟩ := List.mem_flatMap.1 hu
 exact ct_one x u hx
set_option maxHeartbeats 2000000 in
theorem nadd_c {w : World} {v : Value} {l : List Ct} {c : Ct} (h : RPl w v l) (hc : CtOk c) (hb : l.length ≤ 1000) :
  FN Tryz.prog 32 [.agg #[v],ctV c] w fun e w' => ∃ v',e = .returned (.tuple #[.agg #[v'],i64 (addE l c)]) ∧ RPl w' v' (if addE l c = 0 then addL l c else l) ∧ (v' = .slice none 0 0 ∨ v' = v ∨ w.heap.size ≤ slB v') ∧ Ext w w' := by
 refine FN_enter Tryz.func32 rfl rfl (by kernel_rfl) ?_
 obtain ⟨va,vc,hv⟩ := h.isSlice
 subst hv
 have hE : Ext w (((w.alloc (.cells #[.slice va l.length vc] 36)).alloc (.cells #[u32 c.fr,u32 c.to',u64 c.sf,u64 c.su,u64 c.rate] 64)).alloc (.cells #[.slice none 0 0] 36)) := (((Ext.refl w).alloc _).alloc _).alloc _
 have b2 : Blk (((w.alloc (.cells #[.slice va l.length vc] 36)).alloc (.cells #[u32 c.fr,u32 c.to',u64 c.sf,u64 c.su,u64 c.rate] 64)).alloc (.cells #[.slice none 0 0] 36)) w.heap.size [.slice va l.length vc] := (Blk.new w [.slice va l.length vc] 36).ext (((Ext.refl _).alloc _).alloc _)
 have b3 : Blk (((w.alloc (.cells #[.slice va l.length vc] 36)).alloc (.cells #[u32 c.fr, u32 c.to', u64 c.sf, u64 c.su, u64 c.rate] 64)).alloc (.cells #[.slice none 0 0] 36)) (w.heap.size + 1) (ctC c) := by
  have := (Blk.new (w.alloc (.cells #[.slice va l.length vc] 36)) (ctC c) 64).ext ((Ext.refl _).alloc (.cells #[.slice none 0 0] 36))
  simpa using this
 have b4 : Blk (((w.alloc (.cells #[.slice va l.length vc] 36)).alloc (.cells #[u32 c.fr, u32 c.to', u64 c.sf, u64 c.su, u64 c.rate] 64)).alloc (.cells #[.slice none 0 0] 36)) (w.heap.size + 1 + 1) [.slice none 0 0] := by
  have := Blk.new ((w.alloc (.cells #[.slice va l.length vc] 36)).alloc (.cells #[u32 c.fr,u32 c.to',u64 c.sf,u64 c.su,u64 c.rate] 64)) [.slice none 0 0] 36
  simpa using this
 have hsz : (((w.alloc (.cells #[.slice va l.length vc] 36)).alloc (.cells #[u32 c.fr,u32 c.to',u64 c.sf,u64 c.su,u64 c.rate] 64)).alloc (.cells #[.slice none 0 0] 36)).heap.size = w.heap.size + 1 + 1 + 1 := by simp
 simp
 generalize (((w.alloc (.cells #[.slice va l.length vc] 36)).alloc (.cells #[u32 c.fr,u32 c.to',u64 c.sf,u64 c.su,u64 c.rate] 64)).alloc (.cells #[.slice none 0 0] 36)) = w1 at *
 have fin : ∀ (W : World) (a : Value),Ext w W → Ext w (W.setCell ⟨w.heap.size + 1 + 1,0,none⟩ a) := fun W a hX => hX.setCell _ _ (by simp only; omega)
 have hlen := fun ty W => h.isLen (P := Tryz.prog) (t := 22) (by simp) ty W
 have hix := fun i hi W => RPl.index h i hi W
 refine FN.mono (nright_c c hc w1) ?_
 rintro _ w2 ⟨rfl,hE2⟩
 have hX2 := hE.trans hE2
 cases hr : ctRight c with
 | false =>
  have d4 := b4.ext hE2
  simp [(b2.ext hE2).cell 0 _ rfl,d4.cell 0 _ rfl,d4.thaw,cell_setCell,addE,hr]
  exact ⟨h.ext (fin _ _ hX2),fin _ _ hX2⟩
 | true =>
 simp
 refine WC_loop (fun k ρ ds w' => ∃ i : Nat,k = l.length - i ∧ i ≤ l.length ∧ ρ 2 = ptr w.heap.size ∧ ρ 3 = ptr (w.heap.size + 1) ∧ ρ 4 = ptr (w.heap.size + 1 + 1) ∧ ρ 6 = i64 i ∧ ds = [] ∧ Ext w2 w' ∧ ∀ j (hj : j < l.length),j < i → betP c.fr c.to' (fun s => bothB s ⟨c.sf,c.su⟩) l[j] = false) l.length ⟨0,by simp,by simp,by simp,by simp,by simp,by simp,rfl,Ext.refl _,fun j _ h => by omega⟩ ?_
 rintro k ρ ds w3 ⟨i,rfl,hi,e2,e3,e4,e6,rfl,hE3,hno⟩
 have hX3 := hX2.trans hE3
 have c2 := (b2.ext hE2).ext hE3
 have c3 := (b3.ext hE2).ext hE3
 have c4 := (b4.ext hE2).ext hE3
 have nx : IntKind.i64.wrap ((i : Int) + 1) = ((i + 1 : Nat) : Int) := by rw [wrap64 _ (by omega) (by omega)]; rfl
 by_cases hlt : i < l.length
 ·have g := ctRow (h.ext hX3) hlt
  simp [e2,e3,e6,c2.cell 0 _ rfl,hlen,hlt,hix i hlt,g.c0,g.c1,g.c2,g.c3,g.c4,(c3).cell 2 _ rfl,(c3).cell 3 _ rfl]
  have hE4 : Ext w3 (w3.alloc (.cells #[u32 l[i].fr,u32 l[i].to',u64 l[i].sf,u64 l[i].su,u64 l[i].rate] 64)) := (Ext.refl w3).alloc _
  have g4 : Blk (w3.alloc (.cells #[u32 l[i].fr,u32 l[i].to',u64 l[i].sf,u64 l[i].su,u64 l[i].rate] 64)) w3.heap.size (ctC l[i]) := Blk.new w3 (ctC l[i]) 64
  generalize (w3.alloc (.cells #[u32 l[i].fr,u32 l[i].to',u64 l[i].sf,u64 l[i].su,u64 l[i].rate] 64)) = w4 at *
  refine FN.mono (kboth_c ⟨l[i].sf,l[i].su⟩ ⟨c.sf,c.su⟩ w4) ?_
  rintro _ w5 ⟨rfl,hE5⟩
  have hE6 := (Ext.refl w5).alloc (.cells #[u64 (bothS ⟨l[i].sf,l[i].su⟩ ⟨c.sf,c.su⟩).from',u64 (bothS ⟨l[i].sf,l[i].su⟩ ⟨c.sf,c.su⟩).til] 62)
  have hE36 := (hE4.trans hE5).trans hE6
  have d2 := c2.ext hE36
  have d3 := c3.ext hE36
  have d4 := c4.ext hE36
  have dg := (g4.ext hE5).ext hE6
  have hX6 := hX3.trans hE36
  simp
  generalize (w5.alloc (.cells #[u64 (bothS ⟨l[i].sf,l[i].su⟩ ⟨c.sf,c.su⟩).from',u64 (bothS ⟨l[i].sf,l[i].su⟩ ⟨c.sf,c.su⟩).til] 62)) = w6 at *
  have go : betP c.fr c.to' (fun s => bothB s ⟨c.sf, c.su⟩) l[i] = false → ∀ j (hj : j < l.length), j < i + 1 → betP c.fr c.to' (fun s => bothB s ⟨c.sf, c.su⟩) l[j] = false := fun hq j hj hji => by
   rcases Nat.lt_succ_iff_lt_or_eq.1 hji with h1 | rfl
   ·exact hno j hj h1
   ·exact hq
  cases hbb : bothB ⟨l[i].sf,l[i].su⟩ ⟨c.sf,c.su⟩ with
  | false =>
   simp [e2,e3,e4,e6,nx]
   exact ⟨l.length - (i + 1),by omega,i + 1,rfl,by omega,rfl,hE3.trans hE36,go (by simp [betP,hbb])⟩
  | true =>
   by_cases f0 : l[i].fr = c.fr
   ·by_cases f1 : l[i].to' = c.to'
    ·have hcl : clash l c = true := by
      unfold clash
      rw [List.any_eq_true]
      exact ⟨l[i],List.getElem_mem _,by simp [betP,hbb,f0,f1]⟩
     simp [e2,e3,e4,(dg).cell 0 _ rfl,(dg).cell 1 _ rfl,(d3).cell 0 _ rfl,(d3).cell 1 _ rfl,f0,f1,d2.cell 0 _ rfl,d4.cell 0 _ rfl,d4.thaw,cell_setCell,addE,hr,hcl]
     exact ⟨h.ext (fin _ _ hX6),fin _ _ hX6⟩
    ·simp [beq_dec,e2,e3,e4,e6,(dg).cell 0 _ rfl,(dg).cell 1 _ rfl,(d3).cell 0 _ rfl,(d3).cell 1 _ rfl,f0,f1,nx]
     exact ⟨l.length - (i + 1),by omega,i + 1,rfl,by omega,rfl,hE3.trans hE36,go (by simp [betP,f1])⟩
   ·simp [beq_dec,e2,e3,e4,e6,(dg).cell 0 _ rfl,(d3).cell 0 _ rfl,f0,nx]
    exact ⟨l.length - (i + 1),by omega,i + 1,rfl,by omega,rfl,hE3.trans hE36,go (by simp [betP,f0])⟩
 ·have : i = l.length := by omega
  subst this
  have hcl : clash l c = false := by
   unfold clash
   rw [List.any_eq_false]
   intro x hx
   obtain ⟨j,hj,rfl⟩ := List.getElem_of_mem hx
   simp [hno j hj hj]
  by_cases h256 : (256 : Int) ≤ l.length
  ·have h256' : 256 ≤ l.length := by omega
   simp [e2,e4,e6,c2.cell 0 _ rfl,hlen,h256]
   simp [e4,c4.cell 0 _ rfl,c4.thaw,cell_setCell,addE,hr,hcl,h256']
   exact ⟨h.ext (fin _ _ hX3),fin _ _ hX3⟩
  ·have h256' : ¬ 256 ≤ l.length := by omega
   have h0 : addE l c = 0 := by simp [addE,hr,hcl,h256']
   simp [e2,e6,c2.cell 0 _ rfl,hlen,h256,h0]
   refine WC_loop (fun k ρ ds w' => ∃ i : Nat,k = l.length - i ∧ i ≤ kOf l c ∧ ρ 2 = ptr w.heap.size ∧ ρ 3 = ptr (w.heap.size + 1) ∧ ρ 4 = ptr (w.heap.size + 1 + 1) ∧ ρ 10 = i64 i ∧ ds = [] ∧ Ext w2 w') l.length ⟨0,by simp,by simp,by simp [e2],by simp [e3],by simp [e4],by simp,rfl,hE3⟩ ?_
   rintro k ρ ds w7 ⟨i,rfl,hi,e2,e3,e4,e10,rfl,hE7⟩
   have hkl := kOf_le l c
   simp
   refine WC_drawC 12 (.F 0 <| .F 1 <| .F 2 <| .F 3 <| .F 4 <| .F 5 <| .F 6 <| .F 7 <| .F 8 <| .F 9 <| .F 10 <| .F 11 <| .Z) (fun _ => false) rfl (by kernel_rfl) fun w8 hW => ?_
   have hE8 : Ext w2 w8 := hE7.trans (hW ▸ Ext.drew _)
   have hX8 := hX2.trans hE8
   have c2 := (b2.ext hE2).ext hE8
   have c3 := (b3.ext hE2).ext hE8
   have c4 := (b4.ext hE2).ext hE8
   have nx : IntKind.i64.wrap ((i : Int) + 1) = ((i + 1 : Nat) : Int) := by rw [wrap64 _ (by omega) (by omega)]; rfl
   refine with_tail (T := ∀ (σ : Env) (W : World),(σ 2 = ptr w.heap.size ∧ σ 3 = ptr (w.heap.size + 1) ∧ σ 4 = ptr (w.heap.size + 1 + 1) ∧ σ 10 = i64 (kOf l c)) → Ext w2 W → WCt Tryz.prog 87 none ?dC ?dQ Tok.mk σ [] W) (fun tail => ?br) ?jn
   case br =>
    by_cases hlt : i < l.length
    ·have g := ctRow (h.ext hX8) hlt
     simp [e2,e3,e10,c2.cell 0 _ rfl,hlen,hlt,hix i hlt,g.c0,g.c1,g.c2,g.c3,g.c4,(c3).cell 0 _ rfl,(c3).cell 1 _ rfl,(c3).cell 2 _ rfl,(c3).cell 3 _ rfl,(c3).cell 4 _ rfl]
     refine FN.mono (nahead_c l[i] c w8) ?_
     rintro _ w9 ⟨rfl,hE9⟩
     by_cases ha : aheadP l[i] c
     ·rw [show decide (aheadP l[i] c) = true from decide_eq_true ha]
      simp [e2,e3,e4,e10,nx]
      exact ⟨l.length - (i + 1),by omega,i + 1,rfl,tw_go _ l i hlt hi (by simpa using ha),rfl,hE8.trans hE9⟩
     ·rw [show decide (aheadP l[i] c) = false from decide_eq_false ha]
      have hik : i = kOf l c := tw_stop _ l i hlt hi (by simpa using ha)
      simp
      refine tail _ _ ⟨?_,?_,?_,?_⟩ (hE8.trans hE9) <;> simp [e2,e3,e4,e10,← hik]
    ·have hik : i = kOf l c := by omega
     simp [e2,e10,c2.cell 0 _ rfl,hlen,hlt]
     refine tail _ _ ⟨?_,?_,?_,?_⟩ hE8 <;> simp [e2,e3,e4,e10,← hik]
   case jn =>
    rintro σ W ⟨s2,s3,s4,s10⟩ hE9
    have hX9 := hX2.trans hE9
    have d2 := (b2.ext hE2).ext hE9
    have d3 := (b3.ext hE2).ext hE9
    have d4 := (b4.ext hE2).ext hE9
    have zz9 := (hE2.trans hE9).size
    refine WC_drawL 13 (.F 1 <| .F 2 <| .F 3 <| .F 4 <| .F 6 <| .F 9 <| .F 10 <| .F 11 <| .F 12 <| .D 0 <| .D 7 <| .W 0 <| .L 5 <| .W 7 <| .C 8 <| .Z) (fun _ => false) (Xf (fun k => w1.heap.size ≤ k))
     (fun i u W => if i = 0 then (∃ b,u = .slice (some ⟨b,0,none⟩) 0 0) ∧ W.ownsRow w1.heap.size 64 5 u 0 [] else w1.heap.size ≤ slB u ∧ RPl W u [c]) rfl (by kernel_rfl) (fun _ _ => rfl)
     (fun i u a b h1 h2 => ?_) fun W1 hW1 => ?_
    ·by_cases hi : i = 0
     ·rw [if_pos hi] at h1 ⊢
      exact ⟨h1.1,own_ext h1.2 (agr_ext h2)⟩
     ·rw [if_neg hi] at h1 ⊢
      exact ⟨h1.1,h1.2.ext (agr_ext h2)⟩
    have hWE : Ext W W1 := hW1 ▸ Ext.drew W
    have hXW := hX9.trans hWE
    have zzW := hWE.size
    have f2 := d2.ext hWE
    have f3 := d3.ext hWE
    have f4 := d4.ext hWE
    have sH := fun W => h.sliceH (P := Tryz.prog) (t := 22) (by simp) .i64 (kOf l c) (by omega) (by omega) W
    have sL := fun W => h.sliceL (P := Tryz.prog) (t := 22) (by simp) .i64 (kOf l c) (by omega) (by omega) W
    have hT := h.takeH (kOf l c) hkl
    have hD := h.dropL (kOf l c) hkl
    rw [← flat_take ctC (s := 5) (fun _ => rfl)] at hT
    rw [← flat_drop ctC (s := 5) (fun _ => rfl)] at hD
    simp at sH sL
    have x0 : Xf (fun k => w1.heap.size ≤ k) w.heap.size = false := Xf_f (by omega)
    have x1 : Xf (fun k => w1.heap.size ≤ k) (w.heap.size + 1) = false := Xf_f (by omega)
    simp [s2,s3,s10,f2.cell 0 _ rfl,(f3).cell 0 _ rfl,(f3).cell 1 _ rfl,(f3).cell 2 _ rfl,(f3).cell 3 _ rfl,(f3).cell 4 _ rfl,sH,sL,x0,x1]
    refine RL_float (fun W2 h1 => ?_) ?_
    ·simp
     have hs := (hWE.trans (agr_ext h1)).size
     exact ⟨(Ext.refl _).alloc _,own_empty W2 _ (by omega)⟩
    simp
    refine RL_float (fun W2 h1 => ?_) ?_
    ·simp
     have hs := (hWE.trans (agr_ext h1)).size
     exact ⟨(Ext.refl _).alloc _,by simp only [slB]; omega,Sl.made W2 (ctC c) 64 5 1 rfl⟩
    simp
    refine RL_wait fun v0 W2 h2 ⟨⟨b0,hb0⟩,ho0⟩ => ?_
    subst hb0
    simp
    refine RL_loose fun W3 h3 => ?_
    have hXa := hXW.trans (h2.trans h3)
    have hsa := (hWE.trans (h2.trans h3)).size
    have hlt : (l.take (kOf l c)).length = kOf l c := by rw [List.length_take]; omega
    obtain ⟨v1,W4,hr4,ho4,hE5⟩ := append_newB (P := Tryz.prog) (t := 22) (ty := 22) (e := 64) (s := 5) (by simp) (by simp) (by kernel_rfl) (own_ext ho0 h3) (hT.ext hXa).toB (cts_one _) (by omega) (by omega)
    simp [hr4]
    refine KR_ext hE5 ?_
    simp
    refine RL_wait fun v5 W5 h5 ⟨hl5,hs5⟩ => ?_
    obtain ⟨v2,W6,hr6,ho6,hM6,hn6⟩ := append_own (P := Tryz.prog) (t := 22) (ty := 22) (e := 64) (s := 5) (by simp) (by simp) (by kernel_rfl) (own_ext ho4 h5) hs5 (cts_one [c]) (by simp; omega) (by have := hE5.size; have := h5.size; omega)
    have nS : ∀ k,k < w1.heap.size → ¬ (slN v1 = false ∧ k = slB v1) := fun k hk ⟨e1,e2⟩ => by have := own_ge ho4 e1; omega
    simp [hr6]
    have hE6' : Ext w W6 := (((hXa.trans hE5).trans h5).mod (S := fun k => w.heap.size ≤ k)).trans (hM6.weaken fun k hk => by have := own_ge ho4 hk.1; omega) |>.ext fun _ h => h
    refine KR_mk (Xf_agr (hM6.weaken fun k hk => by have := own_ge ho4 hk.1; omega)) ?_
    have hs6 := ((hWE.trans (h2.trans h3)).trans (hE5.trans h5)).size
    obtain ⟨v3,W7,hr7,ho7,hM7,hn7⟩ := append_own (P := Tryz.prog) (t := 22) (ty := 22) (e := 64) (s := 5) (by simp) (by simp) (by kernel_rfl) ho6 (hD.ext hE6') (cts_one _) (by simp; omega) (by have := hM6.size; omega)
    have nS2 : ∀ k,k < w1.heap.size → ¬ (slN v2 = false ∧ k = slB v2) := fun k hk ⟨e1,e2⟩ => by have := own_ge ho6 e1; omega
    have g4 := ((((f4.ext (h2.trans h3)).ext hE5).ext h5).mod hM6 (nS _ (by omega))).mod hM7 (nS2 _ (by omega))
    obtain ⟨a3,c3,rfl⟩ := own_val ho7
    have hlen' : kOf l c + [c].length + (l.length - kOf l c) = (addL l c).length := by rw [addL_len]; simp; omega
    have hfl : (l.take (kOf l c)).flatMap ctC ++ [c].flatMap ctC ++ (l.drop (kOf l c)).flatMap ctC = (addL l c).flatMap ctC := by simp [addL]
    rw [hlen',hfl] at ho7
    rw [hlen'] at hr7
    simp [hr7,s4,g4.cell 0 _ rfl,g4.thaw,cell_setCell]
    have hM8 := Mod.setCell (S := fun k => k = w.heap.size + 1 + 1) (Mod.refl _ W7) ⟨w.heap.size + 1 + 1,0,none⟩ (.slice a3 (addL l c).length c3) (.inl rfl)
    have hX7 : Ext w W7 := (hE6'.mod (S := fun k => w.heap.size ≤ k)).trans (hM7.weaken fun k hk => by have := own_ge ho6 hk.1; omega) |>.ext fun _ h => h
    have hn := own_nil ho7 (by rw [addL_len]; omega)
    have hge := own_ge ho7 hn
    refine ⟨_,⟨rfl,h0.symm⟩,?_,.inr (.inr (by omega)),fin _ _ hX7⟩
    rw [if_pos h0]
    exact (sl_of_own ho7).mod hM8 fun e => by omega
end Go.Proofs
namespace Go.Proofs
open Pk
set_option maxRecDepth 10000
abbrev LR := Ct × Int
abbrev RLg (w : World) (v : Value) (l : List LR) := Sl w 6 v l.length (l.flatMap vrC)
structure C6 (w : World) (b o : Nat) (x : LR) : Prop where
 c0 : w.cell? ⟨b,o,none⟩ = some (u32 x.1.fr)
 c1 : w.cell? ⟨b,o + 1,none⟩ = some (u32 x.1.to')
 c2 : w.cell? ⟨b,o + 2,none⟩ = some (u64 x.1.sf)
 c3 : w.cell? ⟨b,o + 3,none⟩ = some (u64 x.1.su)
 c4 : w.cell? ⟨b,o + 4,none⟩ = some (u64 x.1.rate)
 c5 : w.cell? ⟨b,o + 5,none⟩ = some (u64 x.2)
theorem lrRow {w : World} {v : Value} {l : List LR} (h : RLg w v l) {i : Nat} (hi : i < l.length) : C6 w (slB v) (slO v + i * 6) l[i] := by
 have hx : l[i]? = some l[i] := by simp [hi]
 have f := fun j hj => flat_at vrC (s := 6) (fun _ => rfl) l i j _ hx hj
 have a := fun j u hj => h.at_ (i * 6 + j) u hj
 refine ⟨a 0 _ (f 0 (by omega)), ?_, ?_, ?_, ?_, ?_⟩
 ·have := a 1 _ (f 1 (by omega)); rwa [← Nat.add_assoc] at this
 ·have := a 2 _ (f 2 (by omega)); rwa [← Nat.add_assoc] at this
 ·have := a 3 _ (f 3 (by omega)); rwa [← Nat.add_assoc] at this
 ·have := a 4 _ (f 4 (by omega)); rwa [← Nat.add_assoc] at this
 ·have := a 5 _ (f 5 (by omega)); rwa [← Nat.add_assoc] at this
theorem RLg.index {w : World} {v : Value} {l : List LR} (h : RLg w v l) (i : Nat) (hi : i < l.length) (W : World) : (Instr.indexAt 39 v (.int .i64 (i : Int))).run Tryz.prog W = .ok (.pointer (some ⟨slB v, slO v + i * 6, none⟩)) W := by
 have := Sl.index (P := Tryz.prog) (t := 39) h (by simp) .i64 i (by omega) (by omega) W
 simpa using this
def hitL (c : Ct) (x : LR) : Bool := decide (vkey x.1 = vkey c)
def fndL (l : List LR) (c : Ct) : Int := match l.findIdx? (hitL c) with | some i => i | none => -1
theorem fndL_at {l : List LR} {c : Ct} {i : Nat} (hi : i < l.length) (h1 : hitL c l[i] = true) (h2 : ∀ j (hj : j < i), hitL c l[j] = false) : fndL l c = i := by
 unfold fndL
 rw [List.findIdx?_eq_some_iff_getElem.2 ⟨hi,h1,fun j hj => by simp [h2 j hj]⟩]
theorem fndL_none {l : List LR} {c : Ct} (h2 : ∀ j (hj : j < l.length), hitL c l[j] = false) : fndL l c = -1 := by
 unfold fndL
 rw [List.findIdx?_eq_none_iff.2 fun x hx => by
  obtain ⟨j,hj,rfl⟩ := List.getElem_of_mem hx
  exact h2 j hj]
theorem lfind_c {w : World} {v : Value} {l : List LR} (h : RLg w v l) (c : Ct) (hb : l.length ≤ 1000000) :
  FN Tryz.prog 49 [.agg #[v],ctV c] w fun e w' => e = .returned (i64 (fndL l c)) ∧ Ext w w' := by
 refine FN_enter Tryz.func49 rfl rfl (by kernel_rfl) ?_
 obtain ⟨va,vc,rfl⟩ := h.isSlice
 have hlen := fun ty W => h.isLen (P := Tryz.prog) (t := 39) (by simp) ty W
 have hix := fun i hi W => RLg.index h i hi W
 have hE1 : Ext w ((w.alloc (.cells #[.slice va l.length vc] 41)).alloc (.cells #[u32 c.fr,u32 c.to',u64 c.sf,u64 c.su,u64 c.rate] 64)) := ((Ext.refl w).alloc _).alloc _
 have o1 : Var ((w.alloc (.cells #[.slice va l.length vc] 41)).alloc (.cells #[u32 c.fr,u32 c.to',u64 c.sf,u64 c.su,u64 c.rate] 64)) w.heap.size (.slice va l.length vc) := (Var.new w _ 41).ext ((Ext.refl _).alloc _)
 have o2 : Blk ((w.alloc (.cells #[.slice va l.length vc] 41)).alloc (.cells #[u32 c.fr, u32 c.to', u64 c.sf, u64 c.su, u64 c.rate] 64)) (w.heap.size + 1) (ctC c) := by
  have := Blk.new (w.alloc (.cells #[.slice va l.length vc] 41)) (ctC c) 64
  simpa using this
 simp
 generalize ((w.alloc (.cells #[.slice va l.length vc] 41)).alloc (.cells #[u32 c.fr,u32 c.to',u64 c.sf,u64 c.su,u64 c.rate] 64)) = w1 at *
 refine WC_loop (fun k ρ ds w' => ∃ i : Nat,k = l.length - i ∧ i ≤ l.length ∧ ρ 2 = ptr w.heap.size ∧ ρ 3 = ptr (w.heap.size + 1) ∧ ρ 5 = i64 i ∧ ds = [] ∧ Ext w1 w' ∧ ∀ j (hj : j < l.length),j < i → hitL c l[j] = false) l.length ⟨0,by simp,by simp,by simp,by simp,by simp,rfl,Ext.refl _,fun j _ h => by omega⟩ ?_
 rintro k ρ ds w2 ⟨i,rfl,hi,e2,e3,e5,rfl,hE,hno⟩
 have nx : IntKind.i64.wrap ((i : Int) + 1) = ((i + 1 : Nat) : Int) := by rw [wrap64 _ (by omega) (by omega)]; rfl
 have p1 := o1.ext hE
 by_cases hlt : i < l.length
 ·have r := lrRow (h.ext (hE1.trans hE)) hlt
  simp [e2,e3,e5,p1.cell,hlen,hlt,hix i hlt,r.c0,r.c1,r.c2,r.c3,r.c4,((o2.ext hE)).cell 0 _ rfl]
  have hE4 : Ext w2 (w2.alloc (.cells #[u32 l[i].1.fr,u32 l[i].1.to',u64 l[i].1.sf,u64 l[i].1.su,u64 l[i].1.rate] 64)) := (Ext.refl w2).alloc _
  have g4 : Blk (w2.alloc (.cells #[u32 l[i].1.fr,u32 l[i].1.to',u64 l[i].1.sf,u64 l[i].1.su,u64 l[i].1.rate] 64)) w2.heap.size (ctC l[i].1) := Blk.new w2 (ctC l[i].1) 64
  generalize (w2.alloc (.cells #[u32 l[i].1.fr,u32 l[i].1.to',u64 l[i].1.sf,u64 l[i].1.su,u64 l[i].1.rate] 64)) = w4 at *
  have p2 := o2.ext (hE.trans hE4)
  have fin0 : hitL c l[i] = false → ∀ j (hj : j < l.length), j < i + 1 → hitL c l[j] = false := fun hq j hj hji => by
   rcases Nat.lt_succ_iff_lt_or_eq.1 hji with h1 | rfl
   ·exact hno j hj h1
   ·exact hq
  by_cases b0 : l[i].1.fr = c.fr
  ·by_cases b1 : l[i].1.to' = c.to'
   ·by_cases b2 : l[i].1.sf = c.sf
    ·simp [b0,b1,b2,e3,e5,(g4).cell 1 _ rfl,(g4).cell 2 _ rfl,(p2).cell 1 _ rfl,(p2).cell 2 _ rfl]
     exact ⟨(fndL_at hlt (by simp [hitL,vkey,b0,b1,b2]) fun j hj => hno j (by omega) hj).symm,(hE1.trans hE).trans hE4⟩
    ·simp [beq_dec,b0,b1,b2,e2,e3,e5,(g4).cell 1 _ rfl,(g4).cell 2 _ rfl,(p2).cell 1 _ rfl,(p2).cell 2 _ rfl,nx]
     exact ⟨l.length - (i + 1),by omega,i + 1,rfl,by omega,rfl,hE.trans hE4,fin0 (by simp [hitL,vkey,b2])⟩
   ·simp [beq_dec,b0,b1,e2,e3,e5,(g4).cell 1 _ rfl,(p2).cell 1 _ rfl,nx]
    exact ⟨l.length - (i + 1),by omega,i + 1,rfl,by omega,rfl,hE.trans hE4,fin0 (by simp [hitL,vkey,b1])⟩
  ·simp [beq_dec,b0,e2,e3,e5,nx]
   exact ⟨l.length - (i + 1),by omega,i + 1,rfl,by omega,rfl,hE.trans hE4,fin0 (by simp [hitL,vkey,b0])⟩
 ·have : i = l.length := by omega
  subst this
  simp [e2,e5,p1.cell,hlen]
  exact ⟨(fndL_none fun j hj => hno j hj hj).symm,hE1.trans hE⟩
structure RelL (m : VM) (l : List LR) : Prop where
 get : ∀ k,mget m k = l.find? (fun x => decide (vkey x.1 = k))
 len : m.length = l.length
theorem RelL.bkd {m : VM} {l : List LR} (h : RelL m l) (c : Ct) : bkd m c = ((l.find? (hitL c)).map (·.2)).getD 0 := by
 unfold Go.Proofs.bkd
 rw [h.get]
 rfl
theorem lbooked_c {w : World} {v : Value} {l : List LR} {m : VM} (h : RLg w v l) (hr : RelL m l) (c : Ct) (hc : CtOk c) (hb : l.length ≤ 1000000) :
  FN Tryz.prog 22 [.agg #[v],ctV c] w fun e w' => e = .returned (u64 (bookedT m c)) ∧ Ext w w' := by
 refine FN_enter Tryz.func22 rfl rfl (by kernel_rfl) ?_
 obtain ⟨va,vc,hv⟩ := h.isSlice
 subst hv
 have hlen := fun ty W => h.isLen (P := Tryz.prog) (t := 39) (by simp) ty W
 have hix := fun i hi W => RLg.index h i hi W
 have hE1 : Ext w ((w.alloc (.cells #[.slice va l.length vc] 41)).alloc (.cells #[u32 c.fr,u32 c.to',u64 c.sf,u64 c.su,u64 c.rate] 64)) := ((Ext.refl w).alloc _).alloc _
 have o1 : Var ((w.alloc (.cells #[.slice va l.length vc] 41)).alloc (.cells #[u32 c.fr,u32 c.to',u64 c.sf,u64 c.su,u64 c.rate] 64)) w.heap.size (.slice va l.length vc) := (Var.new w _ 41).ext ((Ext.refl _).alloc _)
 have o2 : Blk ((w.alloc (.cells #[.slice va l.length vc] 41)).alloc (.cells #[u32 c.fr, u32 c.to', u64 c.sf, u64 c.su, u64 c.rate] 64)) (w.heap.size + 1) (ctC c) := by
  have := Blk.new (w.alloc (.cells #[.slice va l.length vc] 41)) (ctC c) 64
  simpa using this
 simp
 generalize ((w.alloc (.cells #[.slice va l.length vc] 41)).alloc (.cells #[u32 c.fr,u32 c.to',u64 c.sf,u64 c.su,u64 c.rate] 64)) = w1 at *
 refine FN.mono (lfind_c (h.ext hE1) c hb) ?_
 rintro _ w2 ⟨rfl,hE2⟩
 unfold bookedT
 rw [hr.bkd]
 cases hf : l.findIdx? (hitL c) with
 | none =>
  have e1 : fndL l c = -1 := by unfold fndL; rw [hf]
  have e2 : l.find? (hitL c) = none := List.find?_eq_none.2 (by simpa using List.findIdx?_eq_none_iff.1 hf)
  simp [e1,e2]
  exact hE1.trans hE2
 | some i =>
  obtain ⟨hi,h1,h2⟩ := List.findIdx?_eq_some_iff_getElem.1 hf
  have e1 : fndL l c = i := by unfold fndL; rw [hf]
  have e2 : l.find? (hitL c) = some l[i] := List.find?_eq_some_iff_getElem.2 ⟨h1,i,hi,rfl,fun j hj => by simpa using h2 j hj⟩
  have hneg : ¬ (i : Int) < 0 := by omega
  have p2 := o2.ext hE2
  simp [e1,e2,hneg,(p2).cell 0 _ rfl,(p2).cell 1 _ rfl,(p2).cell 2 _ rfl,(p2).cell 3 _ rfl,(p2).cell 4 _ rfl]
  refine FN.mono (nright_c c hc w2) ?_
  rintro _ w3 ⟨rfl,hE3⟩
  have hX := (hE1.trans hE2).trans hE3
  have r := lrRow (h.ext hX) hi
  have p1 := (o1.ext hE2).ext hE3
  cases hrr : ctRight c with
  | false => simp; exact hX
  | true =>
   simp [p1.cell,hix i hi,r.c5]
   exact hX
theorem lroom_c {w : World} {v : Value} {l : List LR} {m : VM} (h : RLg w v l) (hr : RelL m l) (hm : vmOk m) (c : Ct) (hc : CtOk c) (hb : l.length ≤ 1000000) (a : Int) :
  FN Tryz.prog 48 [.agg #[v],ctV c,u64 a] w fun e w' => e = .returned (u64 (roomT m c a)) ∧ Ext w w' := by
 refine FN_enter Tryz.func48 rfl rfl (by kernel_rfl) ?_
 obtain ⟨va,vc,hv⟩ := h.isSlice
 subst hv
 have hE1 : Ext w ((w.alloc (.cells #[.slice va l.length vc] 41)).alloc (.cells #[u32 c.fr,u32 c.to',u64 c.sf,u64 c.su,u64 c.rate] 64)) := ((Ext.refl w).alloc _).alloc _
 have o1 : Var ((w.alloc (.cells #[.slice va l.length vc] 41)).alloc (.cells #[u32 c.fr,u32 c.to',u64 c.sf,u64 c.su,u64 c.rate] 64)) w.heap.size (.slice va l.length vc) := (Var.new w _ 41).ext ((Ext.refl _).alloc _)
 have o2 : Blk ((w.alloc (.cells #[.slice va l.length vc] 41)).alloc (.cells #[u32 c.fr, u32 c.to', u64 c.sf, u64 c.su, u64 c.rate] 64)) (w.heap.size + 1) (ctC c) := by
  have := Blk.new (w.alloc (.cells #[.slice va l.length vc] 41)) (ctC c) 64
  simpa using this
 simp
 generalize ((w.alloc (.cells #[.slice va l.length vc] 41)).alloc (.cells #[u32 c.fr,u32 c.to',u64 c.sf,u64 c.su,u64 c.rate] 64)) = w1 at *
 refine FN.mono (nright_c c hc w1) ?_
 rintro _ w2 ⟨rfl,hE2⟩
 unfold roomT
 cases hrr : ctRight c with
 | false => simp; exact hE1.trans hE2
 | true =>
  simp
  refine WC_drawC 7 (.F 0 <| .F 1 <| .F 2 <| .F 3 <| .F 5 <| .F 6 <| .C 4 <| .Z) (fun _ => false) rfl (by kernel_rfl) fun W hW => ?_
  have hE3 : Ext w2 W := hW ▸ Ext.drew _
  have p1 := (o1.ext hE2).ext hE3
  have p2 := (o2.ext hE2).ext hE3
  simp [p1.cell,(p2).cell 0 _ rfl,(p2).cell 1 _ rfl,(p2).cell 2 _ rfl,(p2).cell 3 _ rfl,(p2).cell 4 _ rfl]
  refine FN.mono (kcar_c ⟨c.sf,c.su⟩ c.rate ⟨hc.sf.1,hc.su.2⟩ hc.rate.1 W) ?_
  rintro _ W4 ⟨rfl,hE4⟩
  simp
  refine KR_ext hE4 ?_
  have hX4 := hE1.trans (hE2.trans (hE3.trans hE4))
  simp
  refine FN.mono (lbooked_c (h.ext hX4) hr c hc hb) ?_
  rintro _ W5 ⟨rfl,hE5⟩
  have q2 := (p2.ext hE4).ext hE5
  have hX5 := hX4.trans hE5
  have hcl := carT_le (s := ⟨c.sf,c.su⟩) hc.rate.1
  have hb0 : 0 ≤ bookedT m c := by
   unfold bookedT
   rw [if_pos hrr]
   exact (bkd_b hm c).1
  generalize carT ⟨c.sf,c.su⟩ c.rate = whole at *
  generalize bookedT m c = bk at *
  refine with_tail (T := ∀ (σ : Env) (W : World) (n : Int),σ 38 = u64 n → Ext W5 W → n = whole - min whole bk → FNt Tryz.prog 104 [spV (restS c a),u64 c.rate] W (RC ?dT ?KT ?QT σ []) Tok.mk) (fun tail => ?br) ?jn
  case br =>
   by_cases hlt : bk < whole
   ·simp [hlt,(q2).cell 2 _ rfl,(q2).cell 3 _ rfl,(q2).cell 4 _ rfl]
    refine tail _ _ (whole - bk) ?_ ((Ext.refl _).alloc _) (by omega)
    simp
    rw [wrap64u _ (by omega) (by omega)]
   ·simp [hlt,(q2).cell 2 _ rfl,(q2).cell 3 _ rfl,(q2).cell 4 _ rfl]
    refine tail _ _ 0 ?_ ((Ext.refl _).alloc _) (by omega)
    simp
  case jn =>
   rintro σ W6 n s38 hE6 hn
   have hsf := hc.sf.1
   have hri := ctRight_is hrr
   refine FN.mono (kcar_c (restS c a) c.rate ⟨by unfold restS; simp only; omega,by unfold restS; simp only; omega⟩ hc.rate.1 W6) ?_
   rintro _ W7 ⟨rfl,hE7⟩
   simp [s38,hn]
   exact (hX5.trans hE6).trans hE7
theorem lover_c {w : World} {v : Value} {l : List LR} {m : VM} (h : RLg w v l) (hr : RelL m l) (hm : vmOk m) (c : Ct) (hc : CtOk c) (hb : l.length ≤ 1000000) (a n : Int) (ha : 0 ≤ a) (hn : 0 ≤ n) :
  FN Tryz.prog 166 [.agg #[v],ctV c,u64 a,u64 n] w fun e w' => e = .returned (u64 (overL m c a n)) ∧ Ext w w' := by
 refine FN_enter Tryz.func166 rfl rfl (by kernel_rfl) ?_
 obtain ⟨va,vc,hv⟩ := h.isSlice
 subst hv
 have hE1 : Ext w ((w.alloc (.cells #[.slice va l.length vc] 41)).alloc (.cells #[u32 c.fr,u32 c.to',u64 c.sf,u64 c.su,u64 c.rate] 64)) := ((Ext.refl w).alloc _).alloc _
 have o1 : Var ((w.alloc (.cells #[.slice va l.length vc] 41)).alloc (.cells #[u32 c.fr,u32 c.to',u64 c.sf,u64 c.su,u64 c.rate] 64)) w.heap.size (.slice va l.length vc) := (Var.new w _ 41).ext ((Ext.refl _).alloc _)
 have o2 : Blk ((w.alloc (.cells #[.slice va l.length vc] 41)).alloc (.cells #[u32 c.fr, u32 c.to', u64 c.sf, u64 c.su, u64 c.rate] 64)) (w.heap.size + 1) (ctC c) := by
  have := Blk.new (w.alloc (.cells #[.slice va l.length vc] 41)) (ctC c) 64
  simpa using this
 simp
 generalize ((w.alloc (.cells #[.slice va l.length vc] 41)).alloc (.cells #[u32 c.fr,u32 c.to',u64 c.sf,u64 c.su,u64 c.rate] 64)) = w1 at *
 refine FN.mono (nright_c c hc w1) ?_
 rintro _ w2 ⟨rfl,hE2⟩
 unfold overL
 cases hrr : ctRight c with
 | false => simp; exact hE1.trans hE2
 | true =>
  simp
  refine WC_drawC 20 (.F 0 <| .F 1 <| .F 2 <| .F 3 <| .F 4 <| .F 6 <| .F 8 <| .F 9 <| .F 11 <| .F 12 <| .F 13 <| .F 14 <| .F 15 <| .F 16 <| .F 17 <| .F 18 <| .F 19 <| .C 5 <| .C 7 <| .C 10 <| .Z) (fun _ => false) rfl (by kernel_rfl) fun W hW => ?_
  have hE3 : Ext w2 W := hW ▸ Ext.drew _
  have p1 := (o1.ext hE2).ext hE3
  have p2 := (o2.ext hE2).ext hE3
  have hX3 := hE1.trans (hE2.trans hE3)
  simp [p1.cell,(p2).cell 0 _ rfl,(p2).cell 1 _ rfl,(p2).cell 2 _ rfl,(p2).cell 3 _ rfl,(p2).cell 4 _ rfl]
  refine FN.mono (lbooked_c (h.ext hX3) hr c hc hb) ?_
  rintro _ W4 ⟨rfl,hE4⟩
  have hb0 : 0 ≤ bookedT m c := by
   unfold bookedT
   rw [if_pos hrr]
   exact (bkd_b hm c).1
  have ha0 := addT_le (bookedT m c) n
  have ha1 : 0 ≤ addT (bookedT m c) n := by
   unfold addT
   have := top_0 hb0
   have := top_0 hn
   exact top_0 (by omega)
  simp
  refine KR_ext hE4 ?_
  simp
  refine FN.mono (kadd_c (bookedT m c) n hb0 hn W4) ?_
  rintro _ _ ⟨rfl,rfl⟩
  rename_i W4
  simp
  refine KR_same ?_
  simp
  refine FN.mono (kover_c c.sf (addT (bookedT m c) n) c.rate hc.sf.1 ⟨ha1,by omega⟩ hc.rate.1 W4) ?_
  rintro _ _ ⟨rfl,rfl⟩
  rename_i W4
  simp
  refine KR_same ?_
  simp
  refine FN.mono (kover_c (max a c.sf) (min n 4611686018427387903) c.rate (by omega) ⟨by omega,by omega⟩ hc.rate.1 W4) ?_
  rintro _ _ ⟨rfl,rfl⟩
  simp
  exact hX3.trans hE4
end Go.Proofs