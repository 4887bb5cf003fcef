/-
 Contracts of the functions that the law reaches, step by step.
-/
import Derived.Test.YtdgkfilajbnhgaaGreatGeI
import Derived.Test.YtdgkfilajbnhgaaGreatGrF
namespace Go.Proofs
open Pk
set_option maxRecDepth 10000
theorem dbetter_c (x y : Wy) (w : World) : FN Tryz.prog 22 [wyV x, wyV y] w fun e w' => e = .returned (.bool (decide (wyLt x y))) ∧ Ext w w' := by
 refine FN_enter Tryz.func22 rfl rfl (by kernel_rfl) ?_
 have hE : Ext w ((w.alloc (.cells #[u64 x.a, i64 x.h, u32 x.n, u32 x.f.fr, u32 x.f.to', u64 x.f.sf, u64 x.f.su, u64 x.f.rate] 50)).alloc (.cells #[u64 y.a, i64 y.h, u32 y.n, u32 y.f.fr, u32 y.f.to', u64 y.f.sf, u64 y.f.su, u64 y.f.rate] 50)) := ((Ext.refl w).alloc _).alloc _
 have hA : Blk ((w.alloc (.cells #[u64 x.a, i64 x.h, u32 x.n, u32 x.f.fr, u32 x.f.to', u64 x.f.sf, u64 x.f.su, u64 x.f.rate] 50)).alloc (.cells #[u64 y.a, i64 y.h, u32 y.n, u32 y.f.fr, u32 y.f.to', u64 y.f.sf, u64 y.f.su, u64 y.f.rate] 50)) w.heap.size (wyC x) := (Blk.new w (wyC x) 50).ext ((Ext.refl _).alloc _)
 have hB : Blk ((w.alloc (.cells #[u64 x.a, i64 x.h, u32 x.n, u32 x.f.fr, u32 x.f.to', u64 x.f.sf, u64 x.f.su, u64 x.f.rate] 50)).alloc (.cells #[u64 y.a, i64 y.h, u32 y.n, u32 y.f.fr, u32 y.f.to', u64 y.f.sf, u64 y.f.su, u64 y.f.rate] 50)) (w.heap.size + 1) (wyC y) := by
  have := Blk.new (w.alloc (.cells #[u64 x.a, i64 x.h, u32 x.n, u32 x.f.fr, u32 x.f.to', u64 x.f.sf, u64 x.f.su, u64 x.f.rate] 50)) (wyC y) 50
  simpa using this
 simp
 generalize ((w.alloc (.cells #[u64 x.a, i64 x.h, u32 x.n, u32 x.f.fr, u32 x.f.to', u64 x.f.sf, u64 x.f.su, u64 x.f.rate] 50)).alloc (.cells #[u64 y.a, i64 y.h, u32 y.n, u32 y.f.fr, u32 y.f.to', u64 y.f.sf, u64 y.f.su, u64 y.f.rate] 50)) = w1 at *
 by_cases a0 : x.a = y.a
 ·by_cases a1 : x.h = y.h
  ·by_cases a2 : x.n = y.n
   ·rw [show decide (wyLt x y) = decide (x.f.sf < y.f.sf) from by simp [wyLt, a0, a1, a2]]
    simp [(hA).cell 1 _ rfl, (hA).cell 2 _ rfl, (hA).cell 5 _ rfl, (hB).cell 1 _ rfl, (hB).cell 2 _ rfl, (hB).cell 5 _ rfl, a0, a1, a2]
    exact hE
   ·rw [show decide (wyLt x y) = decide (x.n < y.n) from by simp [wyLt, a0, a1, a2]]
    simp [bne_dec, (hA).cell 1 _ rfl, (hA).cell 2 _ rfl, (hB).cell 1 _ rfl, (hB).cell 2 _ rfl, a0, a1, a2]
    exact hE
  ·rw [show decide (wyLt x y) = decide (x.h < y.h) from by simp [wyLt, a0, a1]]
   simp [bne_dec, (hA).cell 1 _ rfl, (hB).cell 1 _ rfl, a0, a1]
   exact hE
 ·rw [show decide (wyLt x y) = decide (x.a < y.a) from by simp [wyLt, a0]]
  simp [bne_dec, (hA).cell 0 _ rfl, (hB).cell 0 _ rfl, a0]
  exact hE
structure DGr (w : World) (vp vt vl : Value) (L : List Ct) (sl : List St) (ll : List LR) (M : ME) (m : VM) : Prop where
 pl : RPl w vp L
 tb : TRw w vt sl
 lg : RLg w vl ll
 rt : RelT M sl
 rl : RelL m ll
 nd : ∀ q, ((sps M q).map (·.1)).Nodup
 bl : L.length ≤ 14
 bt : sl.length ≤ 14
 bb : ll.length ≤ 14
 ok : ∀ c ∈ L, CtOk c
 vm : vmOk m
theorem DGr.ext {w w' : World} {vp vt vl : Value} {L : List Ct} {sl : List St} {ll : List LR} {M : ME} {m : VM} (h : DGr w vp vt vl L sl ll M m) (hE : Ext w w') : DGr w' vp vt vl L sl ll M m :=
 { h with pl := h.pl.ext hE, tb := h.tb.ext hE, lg := h.lg.ext hE }
abbrev dgV (vp vt vl : Value) : Value := .agg #[vp, vt, vl]
end Go.Proofs
namespace Go.Proofs.Gr
variable {L : List Ct} {snt : Ct → Int → Option Int} {F : List Ct} {at0 : Int}
theorem Bst.done_of {K : Nat} {done done' : Ct → Nat → Prop} {best : Int → Option Tl} (h : Bst L snt F at0 K done best) (hd : ∀ y, Wk L snt F at0 y → done' y.f y.h → done y.f y.h) : Bst L snt F at0 K done' best :=
 ⟨h.is, fun y hy hk => h.le y hy (hd y hy hk)⟩
def Seen (f : Ct) (h : Nat) (best : Int → Option Tl) (ps : List (Int × Int)) : Prop := ∀ p ∈ ps, ∃ o, best p.1 = some o ∧ ¬ keyLt ⟨p.2, h, f, p.1⟩ o
theorem Seen.bet {f : Ct} {h : Nat} {best : Int → Option Tl} {ps : List (Int × Int)} (hs : Seen f h best ps) (p : Int × Int) : Seen f h (bet best ⟨p.2, h, f, p.1⟩) (ps ++ [p]) := by
 intro q hq
 rcases List.mem_append.1 hq with hq | hq
 ·obtain ⟨o, h1, h2⟩ := hs q hq
  obtain ⟨o', h3, h4⟩ := bet_keeps (w := ⟨p.2, h, f, p.1⟩) h1
  exact ⟨o', h3, not_keyLt_trans h2 h4⟩
 ·simp at hq
  subst hq
  exact bet_new best ⟨q.2, h, f, q.1⟩
theorem Bst.hop {K h : Nat} {f : Ct} {best : Int → Option Tl} {done : Ct → Nat → Prop} {m : Int → Option Int} (hb : Bst L snt F at0 K done best) (hm : IsNow L snt F at0 f h m) {ps : List (Int × Int)} (hs : Seen f h best ps) (hp : ∀ n a, m n = some a → (n, a) ∈ ps) :
  Bst L snt F at0 K (fun f' k => done f' k ∨ f' = f ∧ k = h) best := by
 refine ⟨hb.is, fun y hy hd => ?_⟩
 rcases hd with hd | ⟨h1, h2⟩
 ·exact hb.le y hy hd
 ·obtain ⟨a, h3, h4⟩ := hm.le y hy h1 h2
  obtain ⟨o, h5, h6⟩ := hs (y.n, a) (hp _ _ h3)
  refine ⟨o, h5, not_keyLt_trans (y := ⟨a, h, f, y.n⟩) ?_ h6⟩
  unfold keyLt
  rw [h1, h2]
  simp only
  omega
theorem Bst.all {K h : Nat} {f : Ct} {best : Int → Option Tl} {done : Ct → Nat → Prop} (hb : Bst L snt F at0 K (fun f' k => done f' k ∨ f' = f ∧ k < h) best) (he : K < h ∨ ∀ y, Wk L snt F at0 y → y.f = f → h ≤ y.h → False) :
  Bst L snt F at0 K (fun f' k => done f' k ∨ f' = f ∧ k ≤ K) best :=
 hb.done_of fun y hy hd => by
  rcases hd with hd | ⟨h1, h2⟩
  ·exact .inl hd
  ·rcases he with he | he
   ·exact .inr ⟨h1, by omega⟩
   ·refine .inr ⟨h1, ?_⟩
    by_cases e : y.h < h
    ·exact e
    ·exact (he y hy h1 (by omega)).elim
theorem Bst.next {K h : Nat} {f : Ct} {best : Int → Option Tl} {done : Ct → Nat → Prop} (hb : Bst L snt F at0 K (fun f' k => (done f' k ∨ f' = f ∧ k < h) ∨ f' = f ∧ k = h) best) :
  Bst L snt F at0 K (fun f' k => done f' k ∨ f' = f ∧ k < h + 1) best :=
 hb.done_of fun y hy hd => by
  rcases hd with hd | ⟨h1, h2⟩
  ·exact .inl (.inl hd)
  ·by_cases e : y.h = h
   ·exact .inr ⟨h1, e⟩
   ·exact .inl (.inr ⟨h1, by omega⟩)
end Go.Proofs.Gr
