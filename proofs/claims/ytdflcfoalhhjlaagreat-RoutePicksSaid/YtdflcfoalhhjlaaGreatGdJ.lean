/-
 Contracts of the functions that the law reaches,step by step.
-/
import Derived.Test.YtdflcfoalhhjlaaGreatGdE
namespace Go.Proofs
open Pk
def kys (m : ML) : List Int := (m.map (·.1)).mergeSort (fun a b => decide (a ≤ b))
theorem kys_ok (m : ML) : isKeys m (kys m) := by
 obtain ⟨ys,h⟩ := isKeys_ex m
 refine ⟨List.mergeSort_perm _ _,?_⟩
 have := List.pairwise_mergeSort (le := fun a b : Int => decide (a ≤ b)) (fun a b c => by simp; omega) (fun a b => by simp; omega) (m.map (·.1))
 exact this.imp fun h => by simpa using h
theorem sentB_le (m : ML) (o u : Int) : ∀ (ks : List Int) (b : Int), sentB m o u b ks ≤ b
 | [],b => Int.le_refl _
 | s :: ks, b => by
  unfold sentB
  refine Int.le_trans (sentB_le m o u ks _) ?_
  split
  ·omega
  ·omega
theorem sentB_at (m : ML) (o u : Int) : ∀ (ks : List Int) (b s : Int), s ∈ ks → o < s → s ≤ u → sentB m o u b ks ≤ lnd m s
 | k :: ks, b, s, hs, h1, h2 => by
  unfold sentB
  rcases List.mem_cons.1 hs with rfl | hs
  ·refine Int.le_trans (sentB_le m o u ks _) ?_
   rw [if_pos ⟨h1,h2⟩]; omega
  ·exact sentB_at m o u ks _ s hs h1 h2
theorem sentB_is (m : ML) (o u : Int) : ∀ (ks : List Int) (b : Int), sentB m o u b ks = b ∨ ∃ s ∈ ks, o < s ∧ s ≤ u ∧ sentB m o u b ks = lnd m s
 | [],b => .inl rfl
 | k :: ks, b => by
  unfold sentB
  rcases sentB_is m o u ks (if o < k ∧ k ≤ u then min b (lnd m k) else b) with h | ⟨s, h1, h2, h3, h4⟩
  ·rw [h]
   split
   ·rename_i hk
    by_cases hm : b ≤ lnd m k
    ·exact .inl (by omega)
    ·exact .inr ⟨k,by simp,hk.1,hk.2,by omega⟩
   ·exact .inl rfl
  ·exact .inr ⟨s,by simp [h1],h2,h3,h4⟩
theorem top_mono {a b : Int} (h : a ≤ b) : top a ≤ top b := by unfold top; omega
theorem lnd_ge {m : ML} (hg : gdI m) (a : Int) (h0 : 0 ≤ a) : top a ≤ lnd m a := by
 have := tk_0 hg a
 unfold lnd addT top
 omega
theorem lnd_mono {m : ML} {a b : Int} (h : a ≤ b) (he : tk m a = tk m b) : lnd m a ≤ lnd m b := by
 unfold lnd addT
 rw [he]
 have := top_mono h
 exact top_mono (by omega)
theorem lk_at {ks : List Int} {a k : Int} (h : lk a ks = some k) : lk k ks = some k := by
 have h1 := lk_last a ks
 rw [h] at h1
 have h2 := lk_last k ks
 exact h2.uniq (show isLast ks k (some k) from ⟨h1.1,Int.le_refl _,fun x _ h => h⟩)
theorem lk_low {ks : List Int} {a b k : Int} (h : lk b ks = some k) (hk : k ≤ a) (hab : a ≤ b) : lk a ks = some k := by
 have h1 := lk_last b ks
 rw [h] at h1
 exact (lk_last a ks).uniq (show isLast ks a (some k) from ⟨h1.1,hk,fun x hx hxa => h1.2.2 x hx (by omega)⟩)
theorem lk_none {ks : List Int} {a b : Int} (h : lk b ks = none) (hab : a ≤ b) : lk a ks = none := by
 have h1 := lk_last b ks
 rw [h] at h1
 exact (lk_last a ks).uniq (show isLast ks a none from fun k hk => by have := h1 k hk; omega)
theorem tk_of {m : ML} {a k : Int} (h : lk a (m.map (·.1)) = some k) : tk m a = (mget m k).getD 0 := by unfold tk; rw [h]
theorem sentB_mono {m : ML} (ys : List Int) (hy : isKeys m ys) {o o' u : Int} (h : o ≤ o') (hu : o' ≤ u) : sentB m o u (lnd m o) ys ≤ sentB m o' u (lnd m o') ys := by
 rcases sentB_is m o' u ys (lnd m o') with e | ⟨s, h1, h2, h3, e⟩
 ·rw [e]
  cases hk : lk o' (m.map (·.1)) with
  | none =>
   have hk2 := lk_none hk h
   refine Int.le_trans (sentB_le _ _ _ _ _) (lnd_mono h ?_)
   unfold tk; rw [hk,hk2]
  | some k =>
   have hl := lk_last o' (m.map (·.1))
   rw [hk] at hl
   by_cases ho : o < k
   ·refine Int.le_trans (sentB_at m o u ys _ k (hy.1.mem_iff.2 hl.1) ho (by have := hl.2.1; omega)) (lnd_mono hl.2.1 ?_)
    rw [tk_of hk,tk_of (lk_at hk)]
   ·refine Int.le_trans (sentB_le _ _ _ _ _) (lnd_mono h ?_)
    rw [tk_of hk,tk_of (lk_low hk (by omega) h)]
 ·rw [e]
  exact sentB_at m o u ys _ s h1 (by omega) h3
theorem mulT_mono {a b r : Int} (h0 : 0 ≤ a) (h : a ≤ b) (hr : 0 ≤ r) : mulT a r ≤ mulT b r := by
 have h1 := top_mono h
 have ha := top_0 h0
 have hr' := top_0 hr
 unfold mulT
 generalize top a = x at *
 generalize top b = y at *
 generalize top r = z at *
 split
 ·rename_i h2
  rw [if_pos ⟨h2.1,by omega⟩]
  exact Int.le_refl _
 ·rename_i h2
  split
  ·rename_i h3
   have h4 : x ≤ 4611686018427387903 / z := by
    by_cases hz : 4611686018427387903 / z < x
    ·exact (h2 ⟨h3.1,hz⟩).elim
    ·omega
   have h5 := Int.mul_le_mul_of_nonneg_right h4 hr'
   have h6 := Int.ediv_mul_le 4611686018427387903 (show z ≠ 0 by omega)
   exact Int.le_trans h5 h6
  ·exact Int.mul_le_mul_of_nonneg_right h1 hr'
theorem ctRight_is {c : Ct} (h : ctRight c = true) : c.sf < c.su ∧ c.su ≤ 4611686018427387903 ∧ 1 ≤ c.rate := by
 unfold ctRight spOk at h
 simp at h
 omega
theorem rest_ok {c : Ct} (h : ctRight c = true) (t : Int) : spOk (restS c t) = true := by
 have := ctRight_is h
 unfold spOk restS
 simp
 omega
theorem roomT_mono (m : VM) {c : Ct} {t t' : Int} (h : t ≤ t') : roomT m c t' ≤ roomT m c t := by
 unfold roomT
 split
 ·rename_i hr
  have hc := ctRight_is hr
  have : carT (restS c t') c.rate ≤ carT (restS c t) c.rate := by
   unfold carT
   rw [if_pos (rest_ok hr t'),if_pos (rest_ok hr t)]
   refine mulT_mono ?_ ?_ (by omega)
   ·unfold restS; simp only; omega
   ·unfold restS; simp only; omega
  omega
 ·omega
theorem overT_mono {f f' n r : Int} (h : f ≤ f') : overT f n r ≤ overT f' n r := by
 unfold overT
 have := top_mono h
 split
 ·exact this
 ·split
  ·omega
  ·unfold addT
   exact top_mono (by omega)
theorem overL_mono (m : VM) (c : Ct) {t t' : Int} (n : Int) (h : t ≤ t') : overL m c t n ≤ overL m c t' n := by
 unfold overL
 split
 ·have := overT_mono (f := max t c.sf) (f' := max t' c.sf) (n := min n 4611686018427387903) (r := c.rate) (by omega)
  omega
 ·omega
theorem sentN_is {m : VM} {c : Ct} {a n : Int} (h : sentN m c a n = false) : ctRight c = true ∧ n ≠ 0 ∧ n ≤ roomT m c a := by
 unfold sentN at h
 simp at h
 omega
theorem sentN_of {m : VM} {c : Ct} {a n : Int} (h1 : ctRight c = true) (h2 : n ≠ 0) (h3 : n ≤ roomT m c a) : sentN m c a n = false := by
 unfold sentN
 simp [h1,h2]
 omega
theorem overL_up {m : VM} {c : Ct} {a n : Int} (hr : ctRight c = true) (hn : 1 ≤ n) (h : n ≤ roomT m c a) : a < overL m c a n := by
 have hc := ctRight_is hr
 have h1 : max a c.sf < c.su := by
  by_cases hx : max a c.sf < c.su
  ·exact hx
  ·exfalso
   unfold roomT at h
   rw [if_pos hr] at h
   have : carT (restS c a) c.rate = 0 := by
    unfold carT
    rw [if_pos (rest_ok hr a)]
    have : (restS c a).til - (restS c a).from' = 0 := by unfold restS; simp only; omega
    rw [this]
    unfold mulT
    have e : top 0 = 0 := by decide
    rw [e]
    split
    ·rename_i h2
     have := Int.ediv_nonneg (a := 4611686018427387903) (by omega) (Int.le_of_lt h2.1)
     omega
    ·simp
   omega
 unfold overL
 rw [if_pos hr]
 have h2 : max a c.sf < overT (max a c.sf) (min n 4611686018427387903) c.rate := by
  unfold overT
  rw [if_neg (by omega),if_neg (by omega)]
  have hk : 1 ≤ min n 4611686018427387903 / c.rate + min 1 (min n 4611686018427387903 % c.rate) := by
   have e1 := Int.emod_add_mul_ediv (min n 4611686018427387903) c.rate
   have e2 := Int.emod_nonneg (min n 4611686018427387903) (show c.rate ≠ 0 by omega)
   have e3 := Int.ediv_nonneg (a := min n 4611686018427387903) (b := c.rate) (by omega) (by omega)
   generalize min n 4611686018427387903 / c.rate = q at *
   generalize hrr : min n 4611686018427387903 % c.rate = rr at *
   by_cases hq : q = 0
   ·subst hq
    simp at e1
    omega
   ·omega
  unfold addT top
  omega
 omega
def gSnt (M : ME) (m : VM) (n : Int) (c : Ct) (a : Int) : Option Int := if 0 ≤ c.sf ∧ 1 ≤ n then sentO m (sps M (c.fr,c.to')) (kys (sps M (c.fr,c.to'))) c a n else none
theorem sentO_is {m : VM} {m1 : ML} {ys : List Int} {c : Ct} {a n b : Int} (h : sentO m m1 ys c a n = some b) :
  sentN m c a n = false ∧ overL m c a n ≤ c.su ∧ b = sentB m1 (overL m c a n) c.su (lnd m1 (overL m c a n)) ys ∧ b < 4611686018427387903 := by
 unfold sentO at h
 split at h
 ·cases h
 ·rename_i h1
  split at h
  ·cases h
  ·split at h
   ·cases h
   ·cases h
    refine ⟨by simpa using h1,by omega,rfl,by omega⟩
theorem gSnt_sn {M : ME} (hg : gdT M) (m : VM) (n : Int) : Gr.Sn (gSnt M m n) := by
 refine ⟨fun c t a h => ?_, fun c t t' a' htt h => ?_⟩
 ·unfold gSnt at h
  split at h
  ·rename_i h0
   obtain ⟨h1,h2,h3,h4⟩ := sentO_is h
   obtain ⟨k1,k2,k3⟩ := sentN_is h1
   have hup := overL_up k1 h0.2 k3
   have hlo : c.sf < overL m c t n := by
    have e := overL_up (m := m) (a := c.sf) k1 h0.2 (by
     refine Int.le_trans k3 ?_
     unfold roomT
     rw [if_pos k1,if_pos k1]
     have hc := ctRight_is k1
     have : carT (restS c t) c.rate ≤ carT (restS c c.sf) c.rate := by
      unfold carT
      rw [if_pos (rest_ok k1 t),if_pos (rest_ok k1 c.sf)]
      refine mulT_mono ?_ ?_ (by omega)
      ·unfold restS; simp only; omega
      ·unfold restS; simp only; omega
     omega)
    refine Int.lt_of_lt_of_le e ?_
    unfold overL
    rw [if_pos k1,if_pos k1]
    have := overT_mono (f := max c.sf c.sf) (f' := max t c.sf) (n := min n 4611686018427387903) (r := c.rate) (by omega)
    omega
   have hgs := hg.sps (c.fr,c.to')
   rcases sentB_is (sps M (c.fr, c.to')) (overL m c t n) c.su (kys (sps M (c.fr, c.to'))) (lnd (sps M (c.fr, c.to')) (overL m c t n)) with e | ⟨s, e1, e2, e3, e⟩
   ·have := lnd_ge hgs (overL m c t n) (by omega)
    unfold top at this
    omega
   ·have := lnd_ge hgs s (by omega)
    unfold top at this
    omega
  ·cases h
 ·unfold gSnt at h ⊢
  split at h
  ·rename_i h0
   rw [if_pos h0]
   obtain ⟨h1,h2,h3,h4⟩ := sentO_is h
   obtain ⟨k1,k2,k3⟩ := sentN_is h1
   have hm := overL_mono m c n htt
   have hle := sentB_mono (m := sps M (c.fr,c.to')) (kys _) (kys_ok _) (u := c.su) hm h2
   refine ⟨sentB (sps M (c.fr,c.to')) (overL m c t n) c.su (lnd (sps M (c.fr,c.to')) (overL m c t n)) (kys (sps M (c.fr,c.to'))),?_,by omega⟩
   unfold sentO
   rw [if_neg (by rw [sentN_of k1 k2 (Int.le_trans k3 (roomT_mono m htt))]; simp),if_neg (by omega),if_neg (by omega)]
  ·cases h
end Go.Proofs
namespace Go.Proofs
open Pk
set_option maxRecDepth 10000
theorem wrow_lt {w : World} {base e s : Nat} {v : Value} {n : Nat} {xs : List Value} (h : WRow w base e s v n xs) (h0 : slN v = false) : slB v < w.heap.size := by
 obtain ⟨h1,h2⟩ := h
 rcases h2 with ⟨rfl, rfl⟩ | ⟨g, cap, cur, rfl, a1, a2, a3⟩
 ·simp [slN] at h0
 ·exact (Array.getElem?_eq_some_iff.1 a2).1
theorem HeapAt.mod {w w' : World} {b base : Nat} {v : Value} {l : List Tl} {S : Nat → Prop} (h : HeapAt w b base v l) (hM : Mod S w w') (h1 : ¬ S b) (h2 : slN v = false → ¬ S (slB v)) : HeapAt w' b base v l :=
 ⟨h.blk.mod hM h1,wrow_keep h.row fun hn hl => hM.blk _ hl (h2 hn),h.lt⟩
theorem HeapAt.agr {w w' : World} {b base : Nat} {v : Value} {l : List Tl} {S : Nat → Prop} (h : HeapAt w b base v l) (hM : Agr S w w') (h1 : S b) (h2 : slN v = false → S (slB v)) : HeapAt w' b base v l :=
 ⟨h.blk.agr hM h1,wrow_keep h.row fun hn hl => hM.blk _ hl (h2 hn),h.lt⟩
theorem slB_HM (v : Value) (n m : Nat) : slB (slcHM v n m) = slB v := by
 cases v with
 | slice a _ _ => cases a <;> rfl
 | _ => rfl
theorem put9_mod (w : World) (b : Nat) (a0 a1 a2 a3 a4 a5 a6 a7 a8 : Value) : Mod (fun k => k = b) w (((((((((w.setCell ⟨b, 0, none⟩ a0).setCell ⟨b, 1, none⟩ a1).setCell ⟨b, 2, none⟩ a2).setCell ⟨b, 3, none⟩ a3).setCell ⟨b, 4, none⟩ a4).setCell ⟨b, 5, none⟩ a5).setCell ⟨b, 6, none⟩ a6).setCell ⟨b, 7, none⟩ a7).setCell ⟨b, 8, none⟩ a8) :=
 (((((((((Mod.refl _ _).setC _ _).setC _ _).setC _ _).setC _ _).setC _ _).setC _ _).setC _ _).setC _ _).setC _ _
theorem onext_c {w : World} {b base : Nat} {v : Value} {l : List Tl} {n : Nat} (h : HeapAt w b base v l) (hn : l.length = n + 1) (hb : l.length ≤ 1048576) (hL : Gr.LHeap l) :
  FN Tryz.prog 127 [ptr b] w fun e w' => e = .returned (tlV (l[0]'(by omega))) ∧ ∃ l',HeapAt w' b base (slcHM v n n) l' ∧ Gr.LHeap l' ∧ ((l[0]'(by omega)) :: l').Perm l ∧ Mod (fun k => k = b ∨ k = slB v) w w' := by
 refine FN_enter Tryz.func127 rfl rfl (by kernel_rfl) ?_
 have hE : Ext w (w.alloc (.cells #[u64 0,i64 0,u32 0,u32 0,u32 0,u64 0,u64 0,u64 0,u32 0] 173)) := (Ext.refl w).alloc _
 have hB := Blk.new w [u64 0,i64 0,u32 0,u32 0,u32 0,u64 0,u64 0,u64 0,u32 0] 173
 simp
 generalize (w.alloc (.cells #[u64 0,i64 0,u32 0,u32 0,u32 0,u64 0,u64 0,u64 0,u32 0] 173)) = w1 at *
 refine FN.mono (heapPop_c (h.ext hE) hn hb hL) ?_
 rintro _ w3 ⟨rfl,l',h3,hL3,hp,hM3⟩
 simp
 simp [Instr.typeAssert]
 have hlt := h.lt
 have hge := wrow_ge h.row (wrow_nil h.row (by omega))
 have hs := h.blk.lt
 have hrl := wrow_lt h.row (wrow_nil h.row (by omega))
 have hB3 := hB.mod hM3 (by rintro (k | k) <;> omega)
 have hM9 := put9_mod w3 w.heap.size (u64 l[0].a) (i64 l[0].h) (u32 l[0].f.to') (u32 l[0].f.fr) (u32 l[0].f.to') (u64 l[0].f.sf) (u64 l[0].f.su) (u64 l[0].f.rate) (u32 l[0].n)
 simp [(hB3).cell 0 _ rfl,(hB3).cell 1 _ rfl,(hB3).cell 2 _ rfl,(hB3).cell 3 _ rfl,(hB3).cell 4 _ rfl,(hB3).cell 5 _ rfl,(hB3).cell 6 _ rfl,(hB3).cell 7 _ rfl,(hB3).cell 8 _ rfl,hB3.thaw,cell_setCell]
 exact ⟨l',h3.mod hM9 (by omega) (fun _ => by rw [slB_HM]; omega),hL3,hp,((hE.mod (S := fun k => k = b ∨ k = slB v)).trans hM3).trans' hM9 fun i hi => .inr (by omega)⟩
theorem gSnt_eq {M : ME} {m : VM} {c : Ct} (hc : CtOk c) {n : Int} (hn : 0 ≤ n) (a : Int) : gSnt M m n c a = sentO m (sps M (c.fr, c.to')) (kys (sps M (c.fr, c.to'))) c a n := by
 unfold gSnt
 by_cases h : 1 ≤ n
 ·rw [if_pos ⟨hc.sf.1,h⟩]
 ·have : n = 0 := by omega
  subst this
  rw [if_neg (by omega)]
  unfold sentO sentN
  simp
structure Qu where
 fr : Int
 to' : Int
 at_ : Int
 size : Int
 most : Int
 no : List Ct
abbrev quC (q : Qu) (nv : Value) : List Value := [u32 q.fr,u32 q.to',u64 q.at_,u64 q.size,i64 q.most,nv]
structure QuOk (q : Qu) : Prop where
 fr : 0 ≤ q.fr ∧ q.fr ≤ 4294967295
 to' : 0 ≤ q.to' ∧ q.to' ≤ 4294967295
 at_ : 0 ≤ q.at_ ∧ q.at_ ≤ 18446744073709551615
 size : 0 ≤ q.size ∧ q.size ≤ 18446744073709551615
 most : -9223372036854775808 ≤ q.most ∧ q.most ≤ 9223372036854775807
def kidO (M : ME) (m : VM) (q : Qu) (x : Tl) (c : Ct) : List Tl := match gSnt M m q.size c x.a with | some b => if (x.h : Int) < q.most then [⟨b,x.h + 1,x.f,c.to'⟩] else [] | none => []
set_option maxHeartbeats 1000000 in
theorem wstep_c {w : World} {g p t R Q r bg bq bo b base : Nat} {v nv vh : Value} {L : List Ct} {M : ME} {m : VM} {q : Qu} {l : List Tl} (h : GrAt w g p v L t R M Q r m) (hg : gdT M) (hm : vmOk m) (hsl : ∀ p, (sps M p).length ≤ 255)
  (vg : Var w bg (ptr g)) (vq : Blk w bq (quC q nv)) (hq : QuOk q) (vo : Var w bo (ptr b)) (hH : HeapAt w b base vh l) (hbase : base ≤ w.heap.size) (hb : l.length + 1 ≤ 1048576) (hL : Gr.LHeap l) {x : Tl} {c : Ct} (hc : CtOk c) (hx : 0 ≤ x.a) :
  FN Tryz.prog 121 [tlV x,ctV c,ptr bg,ptr bq,ptr bo] w fun e w' => (∃ u,e = .returned u) ∧ ∃ v' l',HeapAt w' b base v' l' ∧ Gr.LHeap l' ∧ l'.Perm (kidO M m q x c ++ l) ∧ Mod (fun k => k = b ∨ (slN vh = false ∧ k = slB vh)) w w' ∧ (slN v' = false → (slN vh = false ∧ slB v' = slB vh) ∨ w.heap.size ≤ slB v') := by
 refine FN_enter Tryz.func121 rfl rfl (by kernel_rfl) ?_
 have hE : Ext w ((w.alloc (.cells #[u64 x.a,i64 x.h,u32 x.f.to',u32 x.f.fr,u32 x.f.to',u64 x.f.sf,u64 x.f.su,u64 x.f.rate,u32 x.n] 173)).alloc (.cells #[u32 c.fr,u32 c.to',u64 c.sf,u64 c.su,u64 c.rate] 64)) := ((Ext.refl w).alloc _).alloc _
 have hT : Blk ((w.alloc (.cells #[u64 x.a,i64 x.h,u32 x.f.to',u32 x.f.fr,u32 x.f.to',u64 x.f.sf,u64 x.f.su,u64 x.f.rate,u32 x.n] 173)).alloc (.cells #[u32 c.fr,u32 c.to',u64 c.sf,u64 c.su,u64 c.rate] 64)) w.heap.size (tlC x) := (Blk.new w (tlC x) 173).ext ((Ext.refl _).alloc _)
 have hC : Blk ((w.alloc (.cells #[u64 x.a, i64 x.h, u32 x.f.to', u32 x.f.fr, u32 x.f.to', u64 x.f.sf, u64 x.f.su, u64 x.f.rate, u32 x.n] 173)).alloc (.cells #[u32 c.fr, u32 c.to', u64 c.sf, u64 c.su, u64 c.rate] 64)) (w.heap.size + 1) (ctC c) := by
  have := Blk.new (w.alloc (.cells #[u64 x.a,i64 x.h,u32 x.f.to',u32 x.f.fr,u32 x.f.to',u64 x.f.sf,u64 x.f.su,u64 x.f.rate,u32 x.n] 173)) (ctC c) 64
  simpa using this
 simp [vg.cell,vq.cell 3 _ rfl]
 generalize ((w.alloc (.cells #[u64 x.a,i64 x.h,u32 x.f.to',u32 x.f.fr,u32 x.f.to',u64 x.f.sf,u64 x.f.su,u64 x.f.rate,u32 x.n] 173)).alloc (.cells #[u32 c.fr,u32 c.to',u64 c.sf,u64 c.su,u64 c.rate] 64)) = w1 at *
 have vq1 := vq.ext hE
 have hs := sent_c (h.ext hE) hg hm hc (hsl _) (kys_ok _) hx hq.size.1
 have hgs : gSnt M m q.size c x.a = sentO m (sps M (c.fr,c.to')) (kys (sps M (c.fr,c.to'))) c x.a q.size := gSnt_eq hc hq.size.1 _
 refine FN.mono (hs) ?_
 rintro _ w2 ⟨rfl,hE2⟩
 unfold kidO
 rw [← hgs]
 have vq2 := vq1.ext hE2
 have hT2 := hT.ext hE2
 have hH2 := (hH.ext hE).ext hE2
 cases hsn : gSnt M m q.size c x.a with
 | none =>
  simp
  exact ⟨vh,l,hH2,hL,List.Perm.refl _,(hE.trans hE2).mod,fun h => .inl ⟨h,rfl⟩⟩
 | some a =>
  by_cases hh : (x.h : Int) < q.most
  ·have hw : IntKind.i64.wrap ((x.h : Int) + 1) = ((x.h + 1 : Nat) : Int) := by
    have := hq.most.2
    rw [wrap64 _ (by omega) (by omega)]; omega
   have vo2 := ((vo.ext hE).ext hE2).cell
   simp [hh,hw,(hT2).cell 1 _ rfl,(hT2).cell 2 _ rfl,(hT2).cell 3 _ rfl,(hT2).cell 4 _ rfl,(hT2).cell 5 _ rfl,(hT2).cell 6 _ rfl,(hT2).cell 7 _ rfl,vq2.cell 4 _ rfl,vo2,(hC.ext hE2).cell 1 _ rfl]
   refine FN.mono (oadd_c hH2 (by have := hE.size; have := hE2.size; omega) hb hL ⟨a,x.h + 1,x.f,c.to'⟩) ?_
   rintro _ w3 ⟨⟨u,rfl⟩,v',l',h3,hL3,hp,hM3,hn3⟩
   simp
   have s1 := hE.size
   have s2 := hE2.size
   exact ⟨v',l',h3,hL3,hp,(hE.trans hE2).mod.trans hM3,fun hn => (hn3 hn).imp id fun g => by omega⟩
  ·simp [hh,hT2.cell 1 _ rfl,vq2.cell 4 _ rfl]
   exact ⟨vh,l,hH2,hL,List.Perm.refl _,(hE.trans hE2).mod,fun h => .inl ⟨h,rfl⟩⟩
end Go.Proofs