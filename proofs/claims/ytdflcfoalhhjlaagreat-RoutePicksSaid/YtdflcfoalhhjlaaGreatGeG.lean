/-
 Contracts of the functions that the law reaches,step by step.
-/
import Derived.Test.YtdflcfoalhhjlaaGreatGeE
import Derived.Test.YtdflcfoalhhjlaaGreatEngV
namespace Go.Proofs
open Pk
set_option maxRecDepth 10000
abbrev RPl (w : World) (v : Value) (l : List Ct) := Sl w 5 v l.length (l.flatMap ctC)
theorem RPl.index {w : World} {v : Value} {l : List Ct} (h : RPl w v l) (i : Nat) (hi : i < l.length) (W : World) : (Instr.indexAt 22 v (.int .i64 (i : Int))).run Tryz.prog W = .ok (.pointer (some ⟨slB v, slO v + i * 5, none⟩)) W := by
 have := Sl.index (P := Tryz.prog) (t := 22) h (by simp) .i64 i (by omega) (by omega) W
 simpa using this
theorem tw_go {α : Type} (p : α → Bool) : ∀ (l : List α) (i : Nat) (h : i < l.length), i ≤ (l.takeWhile p).length → p l[i] = true → i + 1 ≤ (l.takeWhile p).length
 | x :: l, 0, _, _, hp => by
  have hp : p x = true := hp
  rw [List.takeWhile_cons,hp]; simp
 | x :: l, i + 1, h, hi, hp => by
  rw [List.takeWhile_cons] at hi ⊢
  cases hx : p x with
  | false => rw [hx] at hi; simp at hi
  | true =>
   rw [hx] at hi
   have := tw_go p l i (by simpa using h) (by simpa using hi) (by simpa using hp)
   simpa using this
theorem tw_stop {α : Type} (p : α → Bool) : ∀ (l : List α) (i : Nat) (h : i < l.length), i ≤ (l.takeWhile p).length → p l[i] = false → i = (l.takeWhile p).length
 | x :: l, 0, _, _, hp => by
  have hp : p x = false := hp
  rw [List.takeWhile_cons,hp]; simp
 | x :: l, i + 1, h, hi, hp => by
  rw [List.takeWhile_cons] at hi ⊢
  cases hx : p x with
  | false => rw [hx] at hi; simp at hi
  | true =>
   rw [hx] at hi
   have := tw_stop p l i (by simpa using h) (by simpa using hi) (by simpa using hp)
   simpa using this
theorem cts_one (l : List Ct) : ∀ u ∈ l.flatMap ctC, u.oneCell' = true := by
 intro u hu
 obtain ⟨x,-,hx⟩ := List.mem_flatMap.1 hu
 exact ct_one x u hx
set_option maxHeartbeats 2000000 in
theorem nadd_c {w : World} {v : Value} {l : List Ct} {c : Ct} (h : RPl w v l) (hc : CtOk c) (hb : l.length ≤ 1000) :
  FN Tryz.prog 32 [.agg #[v],ctV c] w fun e w' => ∃ v',e = .returned (.tuple #[.agg #[v'],i64 (addE l c)]) ∧ RPl w' v' (if addE l c = 0 then addL l c else l) ∧ (v' = .slice none 0 0 ∨ v' = v ∨ w.heap.size ≤ slB v') ∧ Ext w w' := by
 refine FN_enter Tryz.func32 rfl rfl (by kernel_rfl) ?_
 obtain ⟨va,vc,hv⟩ := h.isSlice
 subst hv
 have hE : Ext w (((w.alloc (.cells #[.slice va l.length vc] 36)).alloc (.cells #[u32 c.fr,u32 c.to',u64 c.sf,u64 c.su,u64 c.rate] 64)).alloc (.cells #[.slice none 0 0] 36)) := (((Ext.refl w).alloc _).alloc _).alloc _
 have b2 : Blk (((w.alloc (.cells #[.slice va l.length vc] 36)).alloc (.cells #[u32 c.fr,u32 c.to',u64 c.sf,u64 c.su,u64 c.rate] 64)).alloc (.cells #[.slice none 0 0] 36)) w.heap.size [.slice va l.length vc] := (Blk.new w [.slice va l.length vc] 36).ext (((Ext.refl _).alloc _).alloc _)
 have b3 : Blk (((w.alloc (.cells #[.slice va l.length vc] 36)).alloc (.cells #[u32 c.fr, u32 c.to', u64 c.sf, u64 c.su, u64 c.rate] 64)).alloc (.cells #[.slice none 0 0] 36)) (w.heap.size + 1) (ctC c) := by
  have := (Blk.new (w.alloc (.cells #[.slice va l.length vc] 36)) (ctC c) 64).ext ((Ext.refl _).alloc (.cells #[.slice none 0 0] 36))
  simpa using this
 have b4 : Blk (((w.alloc (.cells #[.slice va l.length vc] 36)).alloc (.cells #[u32 c.fr, u32 c.to', u64 c.sf, u64 c.su, u64 c.rate] 64)).alloc (.cells #[.slice none 0 0] 36)) (w.heap.size + 1 + 1) [.slice none 0 0] := by
  have := Blk.new ((w.alloc (.cells #[.slice va l.length vc] 36)).alloc (.cells #[u32 c.fr,u32 c.to',u64 c.sf,u64 c.su,u64 c.rate] 64)) [.slice none 0 0] 36
  simpa using this
 have hsz : (((w.alloc (.cells #[.slice va l.length vc] 36)).alloc (.cells #[u32 c.fr,u32 c.to',u64 c.sf,u64 c.su,u64 c.rate] 64)).alloc (.cells #[.slice none 0 0] 36)).heap.size = w.heap.size + 1 + 1 + 1 := by simp
 simp
 generalize (((w.alloc (.cells #[.slice va l.length vc] 36)).alloc (.cells #[u32 c.fr,u32 c.to',u64 c.sf,u64 c.su,u64 c.rate] 64)).alloc (.cells #[.slice none 0 0] 36)) = w1 at *
 have fin : ∀ (W : World) (a : Value),Ext w W → Ext w (W.setCell ⟨w.heap.size + 1 + 1,0,none⟩ a) := fun W a hX => hX.setCell _ _ (by simp only; omega)
 have hlen := fun ty W => h.isLen (P := Tryz.prog) (t := 22) (by simp) ty W
 have hix := fun i hi W => RPl.index h i hi W
 refine FN.mono (nright_c c hc w1) ?_
 rintro _ w2 ⟨rfl,hE2⟩
 have hX2 := hE.trans hE2
 cases hr : ctRight c with
 | false =>
  have d4 := b4.ext hE2
  simp [(b2.ext hE2).cell 0 _ rfl,d4.cell 0 _ rfl,d4.thaw,cell_setCell,addE,hr]
  exact ⟨h.ext (fin _ _ hX2),fin _ _ hX2⟩
 | true =>
 simp
 refine WC_loop (fun k ρ ds w' => ∃ i : Nat,k = l.length - i ∧ i ≤ l.length ∧ ρ 2 = ptr w.heap.size ∧ ρ 3 = ptr (w.heap.size + 1) ∧ ρ 4 = ptr (w.heap.size + 1 + 1) ∧ ρ 6 = i64 i ∧ ds = [] ∧ Ext w2 w' ∧ ∀ j (hj : j < l.length),j < i → betP c.fr c.to' (fun s => bothB s ⟨c.sf,c.su⟩) l[j] = false) l.length ⟨0,by simp,by simp,by simp,by simp,by simp,by simp,rfl,Ext.refl _,fun j _ h => by omega⟩ ?_
 rintro k ρ ds w3 ⟨i,rfl,hi,e2,e3,e4,e6,rfl,hE3,hno⟩
 have hX3 := hX2.trans hE3
 have c2 := (b2.ext hE2).ext hE3
 have c3 := (b3.ext hE2).ext hE3
 have c4 := (b4.ext hE2).ext hE3
 have nx : IntKind.i64.wrap ((i : Int) + 1) = ((i + 1 : Nat) : Int) := by rw [wrap64 _ (by omega) (by omega)]; rfl
 by_cases hlt : i < l.length
 ·have g := ctRow (h.ext hX3) hlt
  simp [e2,e3,e6,c2.cell 0 _ rfl,hlen,hlt,hix i hlt,g.c0,g.c1,g.c2,g.c3,g.c4,(c3).cell 2 _ rfl,(c3).cell 3 _ rfl]
  have hE4 : Ext w3 (w3.alloc (.cells #[u32 l[i].fr,u32 l[i].to',u64 l[i].sf,u64 l[i].su,u64 l[i].rate] 64)) := (Ext.refl w3).alloc _
  have g4 : Blk (w3.alloc (.cells #[u32 l[i].fr,u32 l[i].to',u64 l[i].sf,u64 l[i].su,u64 l[i].rate] 64)) w3.heap.size (ctC l[i]) := Blk.new w3 (ctC l[i]) 64
  generalize (w3.alloc (.cells #[u32 l[i].fr,u32 l[i].to',u64 l[i].sf,u64 l[i].su,u64 l[i].rate] 64)) = w4 at *
  refine FN.mono (kboth_c ⟨l[i].sf,l[i].su⟩ ⟨c.sf,c.su⟩ w4) ?_
  rintro _ w5 ⟨rfl,hE5⟩
  have hE6 := (Ext.refl w5).alloc (.cells #[u64 (bothS ⟨l[i].sf,l[i].su⟩ ⟨c.sf,c.su⟩).from',u64 (bothS ⟨l[i].sf,l[i].su⟩ ⟨c.sf,c.su⟩).til] 62)
  have hE36 := (hE4.trans hE5).trans hE6
  have d2 := c2.ext hE36
  have d3 := c3.ext hE36
  have d4 := c4.ext hE36
  have dg := (g4.ext hE5).ext hE6
  have hX6 := hX3.trans hE36
  simp
  generalize (w5.alloc (.cells #[u64 (bothS ⟨l[i].sf,l[i].su⟩ ⟨c.sf,c.su⟩).from',u64 (bothS ⟨l[i].sf,l[i].su⟩ ⟨c.sf,c.su⟩).til] 62)) = w6 at *
  have go : betP c.fr c.to' (fun s => bothB s ⟨c.sf, c.su⟩) l[i] = false → ∀ j (hj : j < l.length), j < i + 1 → betP c.fr c.to' (fun s => bothB s ⟨c.sf, c.su⟩) l[j] = false := fun hq j hj hji => by
   rcases Nat.lt_succ_iff_lt_or_eq.1 hji with h1 | rfl
   ·exact hno j hj h1
   ·exact hq
  cases hbb : bothB ⟨l[i].sf,l[i].su⟩ ⟨c.sf,c.su⟩ with
  | false =>
   simp [e2,e3,e4,e6,nx]
   exact ⟨l.length - (i + 1),by omega,i + 1,rfl,by omega,rfl,hE3.trans hE36,go (by simp [betP,hbb])⟩
  | true =>
   by_cases f0 : l[i].fr = c.fr
   ·by_cases f1 : l[i].to' = c.to'
    ·have hcl : clash l c = true := by
      unfold clash
      rw [List.any_eq_true]
      exact ⟨l[i],List.getElem_mem _,by simp [betP,hbb,f0,f1]⟩
     simp [e2,e3,e4,(dg).cell 0 _ rfl,(dg).cell 1 _ rfl,(d3).cell 0 _ rfl,(d3).cell 1 _ rfl,f0,f1,d2.cell 0 _ rfl,d4.cell 0 _ rfl,d4.thaw,cell_setCell,addE,hr,hcl]
     exact ⟨h.ext (fin _ _ hX6),fin _ _ hX6⟩
    ·simp [beq_dec,e2,e3,e4,e6,(dg).cell 0 _ rfl,(dg).cell 1 _ rfl,(d3).cell 0 _ rfl,(d3).cell 1 _ rfl,f0,f1,nx]
     exact ⟨l.length - (i + 1),by omega,i + 1,rfl,by omega,rfl,hE3.trans hE36,go (by simp [betP,f1])⟩
   ·simp [beq_dec,e2,e3,e4,e6,(dg).cell 0 _ rfl,(d3).cell 0 _ rfl,f0,nx]
    exact ⟨l.length - (i + 1),by omega,i + 1,rfl,by omega,rfl,hE3.trans hE36,go (by simp [betP,f0])⟩
 ·have : i = l.length := by omega
  subst this
  have hcl : clash l c = false := by
   unfold clash
   rw [List.any_eq_false]
   intro x hx
   obtain ⟨j,hj,rfl⟩ := List.getElem_of_mem hx
   simp [hno j hj hj]
  by_cases h256 : (256 : Int) ≤ l.length
  ·have h256' : 256 ≤ l.length := by omega
   simp [e2,e4,e6,c2.cell 0 _ rfl,hlen,h256]
   simp [e4,c4.cell 0 _ rfl,c4.thaw,cell_setCell,addE,hr,hcl,h256']
   exact ⟨h.ext (fin _ _ hX3),fin _ _ hX3⟩
  ·have h256' : ¬ 256 ≤ l.length := by omega
   have h0 : addE l c = 0 := by simp [addE,hr,hcl,h256']
   simp [e2,e6,c2.cell 0 _ rfl,hlen,h256,h0]
   refine WC_loop (fun k ρ ds w' => ∃ i : Nat,k = l.length - i ∧ i ≤ kOf l c ∧ ρ 2 = ptr w.heap.size ∧ ρ 3 = ptr (w.heap.size + 1) ∧ ρ 4 = ptr (w.heap.size + 1 + 1) ∧ ρ 10 = i64 i ∧ ds = [] ∧ Ext w2 w') l.length ⟨0,by simp,by simp,by simp [e2],by simp [e3],by simp [e4],by simp,rfl,hE3⟩ ?_
   rintro k ρ ds w7 ⟨i,rfl,hi,e2,e3,e4,e10,rfl,hE7⟩
   have hkl := kOf_le l c
   simp
   refine WC_drawC 12 (.F 0 <| .F 1 <| .F 2 <| .F 3 <| .F 4 <| .F 5 <| .F 6 <| .F 7 <| .F 8 <| .F 9 <| .F 10 <| .F 11 <| .Z) (fun _ => false) rfl (by kernel_rfl) fun w8 hW => ?_
   have hE8 : Ext w2 w8 := hE7.trans (hW ▸ Ext.drew _)
   have hX8 := hX2.trans hE8
   have c2 := (b2.ext hE2).ext hE8
   have c3 := (b3.ext hE2).ext hE8
   have c4 := (b4.ext hE2).ext hE8
   have nx : IntKind.i64.wrap ((i : Int) + 1) = ((i + 1 : Nat) : Int) := by rw [wrap64 _ (by omega) (by omega)]; rfl
   refine with_tail (T := ∀ (σ : Env) (W : World),(σ 2 = ptr w.heap.size ∧ σ 3 = ptr (w.heap.size + 1) ∧ σ 4 = ptr (w.heap.size + 1 + 1) ∧ σ 10 = i64 (kOf l c)) → Ext w2 W → WCt Tryz.prog 87 none ?dC ?dQ Tok.mk σ [] W) (fun tail => ?br) ?jn
   case br =>
    by_cases hlt : i < l.length
    ·have g := ctRow (h.ext hX8) hlt
     simp [e2,e3,e10,c2.cell 0 _ rfl,hlen,hlt,hix i hlt,g.c0,g.c1,g.c2,g.c3,g.c4,(c3).cell 0 _ rfl,(c3).cell 1 _ rfl,(c3).cell 2 _ rfl,(c3).cell 3 _ rfl,(c3).cell 4 _ rfl]
     refine FN.mono (nahead_c l[i] c w8) ?_
     rintro _ w9 ⟨rfl,hE9⟩
     by_cases ha : aheadP l[i] c
     ·rw [show decide (aheadP l[i] c) = true from decide_eq_true ha]
      simp [e2,e3,e4,e10,nx]
      exact ⟨l.length - (i + 1),by omega,i + 1,rfl,tw_go _ l i hlt hi (by simpa using ha),rfl,hE8.trans hE9⟩
     ·rw [show decide (aheadP l[i] c) = false from decide_eq_false ha]
      have hik : i = kOf l c := tw_stop _ l i hlt hi (by simpa using ha)
      simp
      refine tail _ _ ⟨?_,?_,?_,?_⟩ (hE8.trans hE9) <;> simp [e2,e3,e4,e10,← hik]
    ·have hik : i = kOf l c := by omega
     simp [e2,e10,c2.cell 0 _ rfl,hlen,hlt]
     refine tail _ _ ⟨?_,?_,?_,?_⟩ hE8 <;> simp [e2,e3,e4,e10,← hik]
   case jn =>
    rintro σ W ⟨s2,s3,s4,s10⟩ hE9
    have hX9 := hX2.trans hE9
    have d2 := (b2.ext hE2).ext hE9
    have d3 := (b3.ext hE2).ext hE9
    have d4 := (b4.ext hE2).ext hE9
    have zz9 := (hE2.trans hE9).size
    refine WC_drawL 13 (.F 1 <| .F 2 <| .F 3 <| .F 4 <| .F 6 <| .F 9 <| .F 10 <| .F 11 <| .F 12 <| .D 0 <| .D 7 <| .W 0 <| .L 5 <| .W 7 <| .C 8 <| .Z) (fun _ => false) (Xf (fun k => w1.heap.size ≤ k))
     (fun i u W => if i = 0 then (∃ b,u = .slice (some ⟨b,0,none⟩) 0 0) ∧ W.ownsRow w1.heap.size 64 5 u 0 [] else w1.heap.size ≤ slB u ∧ RPl W u [c]) rfl (by kernel_rfl) (fun _ _ => rfl)
     (fun i u a b h1 h2 => ?_) fun W1 hW1 => ?_
    ·by_cases hi : i = 0
     ·rw [if_pos hi] at h1 ⊢
      exact ⟨h1.1,own_ext h1.2 (agr_ext h2)⟩
     ·rw [if_neg hi] at h1 ⊢
      exact ⟨h1.1,h1.2.ext (agr_ext h2)⟩
    have hWE : Ext W W1 := hW1 ▸ Ext.drew W
    have hXW := hX9.trans hWE
    have zzW := hWE.size
    have f2 := d2.ext hWE
    have f3 := d3.ext hWE
    have f4 := d4.ext hWE
    have sH := fun W => h.sliceH (P := Tryz.prog) (t := 22) (by simp) .i64 (kOf l c) (by omega) (by omega) W
    have sL := fun W => h.sliceL (P := Tryz.prog) (t := 22) (by simp) .i64 (kOf l c) (by omega) (by omega) W
    have hT := h.takeH (kOf l c) hkl
    have hD := h.dropL (kOf l c) hkl
    rw [← flat_take ctC (s := 5) (fun _ => rfl)] at hT
    rw [← flat_drop ctC (s := 5) (fun _ => rfl)] at hD
    simp at sH sL
    have x0 : Xf (fun k => w1.heap.size ≤ k) w.heap.size = false := Xf_f (by omega)
    have x1 : Xf (fun k => w1.heap.size ≤ k) (w.heap.size + 1) = false := Xf_f (by omega)
    simp [s2,s3,s10,f2.cell 0 _ rfl,(f3).cell 0 _ rfl,(f3).cell 1 _ rfl,(f3).cell 2 _ rfl,(f3).cell 3 _ rfl,(f3).cell 4 _ rfl,sH,sL,x0,x1]
    refine RL_float (fun W2 h1 => ?_) ?_
    ·simp
     have hs := (hWE.trans (agr_ext h1)).size
     exact ⟨(Ext.refl _).alloc _,own_empty W2 _ (by omega)⟩
    simp
    refine RL_float (fun W2 h1 => ?_) ?_
    ·simp
     have hs := (hWE.trans (agr_ext h1)).size
     exact ⟨(Ext.refl _).alloc _,by simp only [slB]; omega,Sl.made W2 (ctC c) 64 5 1 rfl⟩
    simp
    refine RL_wait fun v0 W2 h2 ⟨⟨b0,hb0⟩,ho0⟩ => ?_
    subst hb0
    simp
    refine RL_loose fun W3 h3 => ?_
    have hXa := hXW.trans (h2.trans h3)
    have hsa := (hWE.trans (h2.trans h3)).size
    have hlt : (l.take (kOf l c)).length = kOf l c := by rw [List.length_take]; omega
    obtain ⟨v1,W4,hr4,ho4,hE5⟩ := append_newB (P := Tryz.prog) (t := 22) (ty := 22) (e := 64) (s := 5) (by simp) (by simp) (by kernel_rfl) (own_ext ho0 h3) (hT.ext hXa).toB (cts_one _) (by omega) (by omega)
    simp [hr4]
    refine KR_ext hE5 ?_
    simp
    refine RL_wait fun v5 W5 h5 ⟨hl5,hs5⟩ => ?_
    obtain ⟨v2,W6,hr6,ho6,hM6,hn6⟩ := append_own (P := Tryz.prog) (t := 22) (ty := 22) (e := 64) (s := 5) (by simp) (by simp) (by kernel_rfl) (own_ext ho4 h5) hs5 (cts_one [c]) (by simp; omega) (by have := hE5.size; have := h5.size; omega)
    have nS : ∀ k,k < w1.heap.size → ¬ (slN v1 = false ∧ k = slB v1) := fun k hk ⟨e1,e2⟩ => by have := own_ge ho4 e1; omega
    simp [hr6]
    have hE6' : Ext w W6 := (((hXa.trans hE5).trans h5).mod (S := fun k => w.heap.size ≤ k)).trans (hM6.weaken fun k hk => by have := own_ge ho4 hk.1; omega) |>.ext fun _ h => h
    refine KR_mk (Xf_agr (hM6.weaken fun k hk => by have := own_ge ho4 hk.1; omega)) ?_
    have hs6 := ((hWE.trans (h2.trans h3)).trans (hE5.trans h5)).size
    obtain ⟨v3,W7,hr7,ho7,hM7,hn7⟩ := append_own (P := Tryz.prog) (t := 22) (ty := 22) (e := 64) (s := 5) (by simp) (by simp) (by kernel_rfl) ho6 (hD.ext hE6') (cts_one _) (by simp; omega) (by have := hM6.size; omega)
    have nS2 : ∀ k,k < w1.heap.size → ¬ (slN v2 = false ∧ k = slB v2) := fun k hk ⟨e1,e2⟩ => by have := own_ge ho6 e1; omega
    have g4 := ((((f4.ext (h2.trans h3)).ext hE5).ext h5).mod hM6 (nS _ (by omega))).mod hM7 (nS2 _ (by omega))
    obtain ⟨a3,c3,rfl⟩ := own_val ho7
    have hlen' : kOf l c + [c].length + (l.length - kOf l c) = (addL l c).length := by rw [addL_len]; simp; omega
    have hfl : (l.take (kOf l c)).flatMap ctC ++ [c].flatMap ctC ++ (l.drop (kOf l c)).flatMap ctC = (addL l c).flatMap ctC := by simp [addL]
    rw [hlen',hfl] at ho7
    rw [hlen'] at hr7
    simp [hr7,s4,g4.cell 0 _ rfl,g4.thaw,cell_setCell]
    have hM8 := Mod.setCell (S := fun k => k = w.heap.size + 1 + 1) (Mod.refl _ W7) ⟨w.heap.size + 1 + 1,0,none⟩ (.slice a3 (addL l c).length c3) (.inl rfl)
    have hX7 : Ext w W7 := (hE6'.mod (S := fun k => w.heap.size ≤ k)).trans (hM7.weaken fun k hk => by have := own_ge ho6 hk.1; omega) |>.ext fun _ h => h
    have hn := own_nil ho7 (by rw [addL_len]; omega)
    have hge := own_ge ho7 hn
    refine ⟨_,⟨rfl,h0.symm⟩,?_,.inr (.inr (by omega)),fin _ _ hX7⟩
    rw [if_pos h0]
    exact (sl_of_own ho7).mod hM8 fun e => by omega
end Go.Proofs
namespace Go.Proofs
open Pk
set_option maxRecDepth 10000
abbrev LR := Ct × Int
abbrev RLg (w : World) (v : Value) (l : List LR) := Sl w 6 v l.length (l.flatMap vrC)
structure RelL (m : VM) (l : List LR) : Prop where
 get : ∀ k,mget m k = l.find? (fun x => decide (vkey x.1 = k))
 len : m.length = l.length
end Go.Proofs