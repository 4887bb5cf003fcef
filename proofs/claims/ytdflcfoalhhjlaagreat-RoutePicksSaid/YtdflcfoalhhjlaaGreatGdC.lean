/-
 Contracts of the functions that the law reaches,step by step.
-/
import Derived.Test.YtdflcfoalhhjlaaGreatGdA
namespace Go.Proofs
open Pk
set_option maxRecDepth 10000
theorem append_freshO {P : Program} {w : World} {s : Nat} {t ty : TypeId} {v : Value} {n : Nat} {xs : List Value} {v2 : Value} {m : Nat} {ys : List Value} {e : TypeId} (hs : isS (P.underlying t) = true) (he : elemT (P.underlying t) = e) (hi : elOk (P.info? e) s = true)
  (hv : Sl w s v n xs) (hfull : slC v = n) (h2 : Sl w s v2 m ys) (h1 : ∀ u ∈ ys,u.oneCell' = true) (hb : (n + m) ≤ 1048576) (hm : 0 < m) :
  ∃ v' w',(Builtin.append_ #[t,t] ty #[v,v2]).run P w = .ok v' w' ∧ w'.ownsRow w.heap.size e s v' (n + m) (xs ++ ys) ∧ Ext w w' := by
 obtain ⟨v',w',hr,hsl,hE,-⟩ := append_full (ty := ty) hs he hi hv hfull h2 h1 hb
 obtain ⟨⟨i,z,hi1,hi2,hi3,hi4,hi5⟩,hsz⟩ := elOk_inv hi
 have hel := elemT_of (P := P) hs
 rw [he] at hel
 subst hel
 have hsrc := h2.src (P := P) hs h1
 rw [← hi3] at hsrc
 have hold : ∃ a, v = .slice a n n ∧ (Builtin.firstCells i.size n (.slice a n n)).run P w.drew = .ok xs.toArray w.drew := by
  rcases hv.val with ⟨c, rfl, rfl⟩ | ⟨b, o, c, rfl, hc⟩
  ·have : c = 0 := hfull
   subst this
   have : xs = [] := List.eq_nil_of_length_eq_zero (by simpa using hv.len)
   subst this
   exact ⟨none,rfl,run_firstCells_none _ _ _ _ _⟩
  ·have : c = n := hfull
   subst this
   exact ⟨_,rfl,run_firstCells_some w.drew i.size c ⟨b,o,none⟩ c c xs (by rw [hi3]; exact hv.len) (fun j u hj => by simpa [slB,slO] using hv.at_ j u hj)⟩
 obtain ⟨a,rfl,hold⟩ := hold
 have hfit : Builtin.nextslicecap (n + m) n * i.bytes ≤ 281474976710656 := growslice_fits (by omega) (by have := Nat.mul_le_mul hb hi5; omega)
 have hr2 := run_append_grow_src (P := P) w t t ty (P.elem t) i z (elem_of hs) hi1 hi2 a n n xs hold v2 m ys hsrc (by omega) (by omega) hfit
 have hcap := grownCap_ge w (n + m) n (P.elem t)
 have hcapm := grownCap_le_maxLen w (n + m) n (P.elem t) (by simp only [maxLen]; omega)
 refine ⟨_, _, hr2, ⟨by rw [List.length_append, hv.len, h2.len, Nat.add_mul], .inr ⟨w.heap.size, _, _, rfl, Nat.le_refl _, by simpa using World.alloc_heap_new w.drew _, hcap, hcapm, ?_, ?_⟩⟩, ?_⟩
 ·show ((xs ++ ys).toArray ++ Builtin.zeroCells z.cells (grownCap w (n + m) n (P.elem t) - (n + m))).size = _
  rw [Array.size_append,Go.size_zeroCells,hi4,List.size_toArray,List.length_append,hv.len,h2.len,← Nat.add_mul,← Nat.add_mul]
  congr 1
  omega
 ·show List.take ((n + m) * s) ((xs ++ ys).toArray ++ Builtin.zeroCells z.cells (grownCap w (n + m) n (P.elem t) - (n + m))).toList = _
  rw [Array.toList_append,List.take_left' (by simp [hv.len,h2.len,Nat.add_mul])]
 ·rw [hr] at hr2
  cases hr2
  exact hE
def WRow (w : World) (base e s : Nat) (v : Value) (n : Nat) (xs : List Value) : Prop :=
 xs.length = n * s ∧ (v = .slice none 0 0 ∧ n = 0 ∨ ∃ g cap cur,v = .slice (some ⟨g,0,none⟩) n cap ∧ base ≤ g ∧ w.heap[g]? = some (.cells cur e (0,0)) ∧ n ≤ cap ∧ cap ≤ maxLen ∧ n * s ≤ cur.size ∧ (cur.size = cap * s ∨ cap = n) ∧ cur.toList.take (n * s) = xs)
theorem wrow_own {w : World} {base e s : Nat} {v : Value} {n : Nat} {xs : List Value} (h : w.ownsRow base e s v n xs) : WRow w base e s v n xs := by
 obtain ⟨h1,h2⟩ := h
 refine ⟨h1,?_⟩
 rcases h2 with ⟨rfl, rfl⟩ | ⟨g, cap, cur, rfl, a1, a2, a3, a4, a5, a6⟩
 ·exact .inl ⟨rfl,rfl⟩
 ·exact .inr ⟨g,cap,cur,rfl,a1,a2,a3,a4,by rw [a5]; exact Nat.mul_le_mul_right _ a3,.inl a5,a6⟩
theorem wrow_cases {w : World} {base e s : Nat} {v : Value} {n : Nat} {xs : List Value} (h : WRow w base e s v n xs) : w.ownsRow base e s v n xs ∨ slC v = n := by
 obtain ⟨h1,h2⟩ := h
 rcases h2 with ⟨rfl, rfl⟩ | ⟨g, cap, cur, rfl, a1, a2, a3, a4, a5, a6, a7⟩
 ·exact .inr rfl
 ·rcases a6 with a6 | rfl
  ·exact .inl ⟨h1,.inr ⟨g,cap,cur,rfl,a1,a2,a3,a4,a6,a7⟩⟩
  ·exact .inr rfl
theorem wrow_sl {w : World} {base e s : Nat} {v : Value} {n : Nat} {xs : List Value} (h : WRow w base e s v n xs) : Sl w s v n xs := by
 obtain ⟨h1,h2⟩ := h
 rcases h2 with ⟨rfl, rfl⟩ | ⟨g, cap, cur, rfl, a1, a2, a3, a4, a5, a6, a7⟩
 ·have : xs = [] := by rw [Nat.zero_mul] at h1; exact List.length_eq_zero_iff.1 h1
  subst this
  exact Sl.nil _ _ _
 ·refine ⟨h1,.inr ⟨g,0,cap,rfl,a3⟩,fun j u hj => ?_⟩
  rw [← a7,List.getElem?_take] at hj
  split at hj
  ·simp only [slB,slO,Nat.zero_add,World.cell?,a2]
   simpa using hj
  ·cases hj
theorem wrow_keep {w w' : World} {base e s : Nat} {v : Value} {n : Nat} {xs : List Value} (h : WRow w base e s v n xs) (hk : slN v = false → slB v < w.heap.size → w'.heap[slB v]? = w.heap[slB v]?) : WRow w' base e s v n xs := by
 obtain ⟨h1,h2⟩ := h
 refine ⟨h1,?_⟩
 rcases h2 with h2 | ⟨g, cap, cur, rfl, a1, a2, a3⟩
 ·exact .inl h2
 ·exact .inr ⟨g,cap,cur,rfl,a1,by rw [← a2]; exact hk rfl (Array.getElem?_eq_some_iff.1 a2).1,a3⟩
theorem wrow_ge {w : World} {base e s : Nat} {v : Value} {n : Nat} {xs : List Value} (h : WRow w base e s v n xs) (h0 : slN v = false) : base ≤ slB v := by
 obtain ⟨h1,h2⟩ := h
 rcases h2 with ⟨rfl, rfl⟩ | ⟨g, cap, cur, rfl, a1, a2, a3⟩
 ·simp [slN] at h0
 ·exact a1
theorem wrow_thaw {w : World} {base e s : Nat} {v : Value} {n : Nat} {xs : List Value} (h : WRow w base e s v n xs) (hn : 0 < n) (j : Nat) : w.frozen? ⟨slB v, j, none⟩ = false := by
 obtain ⟨h1,h2⟩ := h
 rcases h2 with ⟨rfl, rfl⟩ | ⟨g, cap, cur, rfl, a1, a2, a3⟩
 ·omega
 ·simp [slB,World.frozen?,a2]
theorem wrow_nil {w : World} {base e s : Nat} {v : Value} {n : Nat} {xs : List Value} (h : WRow w base e s v n xs) (hn : 0 < n) : slN v = false := by
 obtain ⟨h1,h2⟩ := h
 rcases h2 with ⟨rfl, rfl⟩ | ⟨g, cap, cur, rfl, a1, a2, a3⟩
 ·omega
 ·rfl
theorem wrow_val {w : World} {base e s : Nat} {v : Value} {n : Nat} {xs : List Value} (h : WRow w base e s v n xs) : ∃ a c, v = .slice a n c := by
 obtain ⟨h1,h2⟩ := h
 rcases h2 with ⟨rfl, rfl⟩ | ⟨g, cap, cur, rfl, a1, a2, a3⟩
 ·exact ⟨_,_,rfl⟩
 ·exact ⟨_,_,rfl⟩
theorem wrow_set {w : World} {base e s : Nat} {v : Value} {n : Nat} {xs : List Value} (h : WRow w base e s v n xs) (j : Nat) (hj : j < xs.length) (u : Value) : WRow (w.setCell ⟨slB v, slO v + j, none⟩ u) base e s v n (xs.set j u) := by
 obtain ⟨h1,h2⟩ := h
 refine ⟨by simpa using h1,?_⟩
 rcases h2 with ⟨rfl, rfl⟩ | ⟨g, cap, cur, rfl, a1, a2, a3, a4, a5, a6, a7⟩
 ·simp at h1; subst h1; simp at hj
 ·refine .inr ⟨g, cap, cur.setIfInBounds j u, rfl, a1, ?_, a3, a4, by simpa using a5, by simpa using a6, ?_⟩
  ·simp only [slB,slO,Nat.zero_add]
   unfold World.setCell
   simp only [Array.getElem?_modify,if_pos]
   rw [a2]; rfl
  ·rw [← a7]
   apply List.ext_getElem?
   intro k
   simp only [List.getElem?_take,Array.getElem?_toList,List.getElem?_set,Array.getElem?_setIfInBounds,List.length_take,Array.length_toList]
   have hjs : j < n * s := by rw [← h1]; exact hj
   by_cases hk : k < n * s
   ·rw [if_pos hk,if_pos hk]
    by_cases hkj : j = k
    ·subst hkj
     rw [if_pos rfl,if_pos (by omega),if_pos rfl,if_pos (by omega)]
    ·rw [if_neg hkj,if_neg hkj]
   ·rw [if_neg hk,if_neg hk]
    rw [if_neg (by omega)]
theorem wrow_putC {base e s : Nat} {v : Value} {n : Nat} : ∀ (cs : List Value) {w : World} {xs : List Value} (j : Nat), WRow w base e s v n xs → j + cs.length ≤ xs.length → WRow (putC w (slB v) (slO v + j) cs) base e s v n (setL xs j cs)
 | [],w,xs,j,h,_ => h
 | c :: cs, w, xs, j, h, hl => by
  have h1 := wrow_set h j (by simp at hl; omega) c
  have := wrow_putC cs (j + 1) h1 (by simp at hl ⊢; omega)
  rw [← Nat.add_assoc] at this
  exact this
theorem wrow_put {w : World} {base e s : Nat} {v : Value} {α : Type} (g : α → List Value) (hg : ∀ x, (g x).length = s) {l : List α} (h : WRow w base e s v l.length (l.flatMap g)) (i : Nat) (hi : i < l.length) (x : α) :
  WRow (putC w (slB v) (slO v + i * s) (g x)) base e s v (l.set i x).length ((l.set i x).flatMap g) := by
 have hl := flat_len g hg l
 have hm : (i + 1) * s ≤ l.length * s := Nat.mul_le_mul_right _ hi
 rw [Nat.add_mul,Nat.one_mul] at hm
 rw [flat_set g hg l i hi x,List.length_set]
 exact wrow_putC (g x) (i * s) h (by rw [hg,hl]; omega)
theorem wrow_cut {w : World} {base e s : Nat} {v : Value} {n : Nat} {xs : List Value} (h : WRow w base e s v n xs) (i : Nat) (hi : i ≤ n) : WRow w base e s (slcHM v i i) i (xs.take (i * s)) := by
 obtain ⟨h1,h2⟩ := h
 have hm : i * s ≤ n * s := Nat.mul_le_mul_right _ hi
 refine ⟨by rw [List.length_take,h1]; omega,?_⟩
 rcases h2 with ⟨rfl, rfl⟩ | ⟨g, cap, cur, rfl, a1, a2, a3, a4, a5, a6, a7⟩
 ·have : i = 0 := by omega
  subst this
  exact .inl ⟨rfl,rfl⟩
 ·refine .inr ⟨g,i,cur,rfl,a1,a2,Nat.le_refl _,by omega,by omega,.inr rfl,?_⟩
  rw [← a7,List.take_take,Nat.min_eq_left hm]
theorem wrow_append {P : Program} {w : World} {base s : Nat} {t ty : TypeId} {v : Value} {n : Nat} {xs : List Value} {v2 : Value} {m : Nat} {ys : List Value} {e : TypeId} (hs : isS (P.underlying t) = true) (he : elemT (P.underlying t) = e) (hi : elOk (P.info? e) s = true)
  (hv : WRow w base e s v n xs) (h2 : Sl w s v2 m ys) (h1 : ∀ u ∈ ys,u.oneCell' = true) (hb : (n + m) ≤ 1048576) (hm : 0 < m) (hbase : base ≤ w.heap.size) :
  ∃ v' w', (Builtin.append_ #[t, t] ty #[v, v2]).run P w = .ok v' w' ∧ WRow w' base e s v' (n + m) (xs ++ ys) ∧ Mod (fun k => slN v = false ∧ k = slB v) w w' ∧
   (slN v' = false → (slN v = false ∧ slB v' = slB v) ∨ w.heap.size ≤ slB v') := by
 rcases wrow_cases hv with ho | hf
 ·obtain ⟨v',w',g1,g2,g3,g4⟩ := append_own (ty := ty) hs he hi ho h2 h1 hb hbase
  exact ⟨v',w',g1,wrow_own g2,g3,g4⟩
 ·obtain ⟨v',w',g1,g2,g3⟩ := append_freshO (ty := ty) hs he hi (wrow_sl hv) hf h2 h1 hb hm
  exact ⟨v',w',g1,wrow_own (own_lower g2 hbase),g3.mod,fun hn => .inr (own_ge g2 hn)⟩
end Go.Proofs
namespace Go.Proofs
open Pk
set_option maxRecDepth 10000
def mrow (P : Program) (t : TypeId) (name : String) : Option (Array FieldStep × Option (FuncId × Bool)) := (P.info? t).bind fun i => (i.methods.find? (·.name == name)).map fun m => (m.path,m.func)
theorem run_typeInfo' {P : Program} {t : TypeId} {i : TypeInfo} (h : P.info? t = some i) (w : World) : (typeInfo t).run P w = .ok i w := by
 simp [typeInfo,h]
theorem method_row {P : Program} {t : TypeId} {name : String} {f : FuncId} {pr : Bool} {v : Value} (k : Nat) (h : mrow P t name = some (#[], some (f, pr))) (w : World) :
  (method (k + 1) t v name).run P w = ((receiverAt t (.val v) pr (some ((name.splitOn ".").getLastD name))).run P w).andThen fun r w' => .ok (f, r) w' := by
 unfold mrow at h
 cases hi : P.info? t with
 | none => rw [hi] at h; cases h
 | some i =>
  rw [hi] at h
  simp only [Option.bind_some] at h
  cases hm : i.methods.find? (·.name == name) with
  | none => rw [hm] at h; cases h
  | some m =>
   rw [hm] at h
   simp only [Option.map_some,Option.some.injEq,Prod.mk.injEq] at h
   simp [method,run_typeInfo' hi,hm,h.1,h.2,follow]
   done
theorem run_wrapnil {P : Program} (t ty : TypeId) (a : Addr) (x y : String) (w : World) : (Builtin.ssaWrapNilChk_ #[t] ty #[.pointer (some a),strVal x,strVal y]).run P w = .ok (.pointer (some a)) w := rfl
theorem fuelM : ∃ k,Tryz.prog.types.size + Made.depth = k + 1 := ⟨Tryz.prog.types.size + 99,rfl⟩
abbrev Tl := Gr.Tl
abbrev tlC (x : Tl) : List Value := [u64 x.a,i64 x.h,u32 x.f.to',u32 x.f.fr,u32 x.f.to',u64 x.f.sf,u64 x.f.su,u64 x.f.rate,u32 x.n]
abbrev tlV (x : Tl) : Value := .agg #[u64 x.a,i64 x.h,u32 x.f.to',u32 x.f.fr,u32 x.f.to',u64 x.f.sf,u64 x.f.su,u64 x.f.rate,u32 x.n]
structure C9 (w : World) (b o : Nat) (x : Tl) : Prop where
 c0 : w.cell? ⟨b,o,none⟩ = some (u64 x.a)
 c1 : w.cell? ⟨b,o + 1,none⟩ = some (i64 x.h)
 c2 : w.cell? ⟨b,o + 2,none⟩ = some (u32 x.f.to')
 c3 : w.cell? ⟨b,o + 3,none⟩ = some (u32 x.f.fr)
 c4 : w.cell? ⟨b,o + 4,none⟩ = some (u32 x.f.to')
 c5 : w.cell? ⟨b,o + 5,none⟩ = some (u64 x.f.sf)
 c6 : w.cell? ⟨b,o + 6,none⟩ = some (u64 x.f.su)
 c7 : w.cell? ⟨b,o + 7,none⟩ = some (u64 x.f.rate)
 c8 : w.cell? ⟨b,o + 8,none⟩ = some (u32 x.n)
theorem tlRow {w : World} {v : Value} {l : List Tl} (h : Sl w 9 v l.length (l.flatMap tlC)) {i : Nat} (hi : i < l.length) : C9 w (slB v) (slO v + i * 9) l[i] := by
 have hx : l[i]? = some l[i] := by simp [hi]
 have f := fun j hj => flat_at tlC (s := 9) (fun _ => rfl) l i j _ hx hj
 have a := fun j u hj => h.at_ (i * 9 + j) u hj
 refine ⟨a 0 _ (f 0 (by omega)), ?_, ?_, ?_, ?_, ?_, ?_, ?_, ?_⟩
 ·have := a 1 _ (f 1 (by omega)); rwa [← Nat.add_assoc] at this
 ·have := a 2 _ (f 2 (by omega)); rwa [← Nat.add_assoc] at this
 ·have := a 3 _ (f 3 (by omega)); rwa [← Nat.add_assoc] at this
 ·have := a 4 _ (f 4 (by omega)); rwa [← Nat.add_assoc] at this
 ·have := a 5 _ (f 5 (by omega)); rwa [← Nat.add_assoc] at this
 ·have := a 6 _ (f 6 (by omega)); rwa [← Nat.add_assoc] at this
 ·have := a 7 _ (f 7 (by omega)); rwa [← Nat.add_assoc] at this
 ·have := a 8 _ (f 8 (by omega)); rwa [← Nat.add_assoc] at this
def tlWy (x : Tl) : Wy := ⟨x.a,x.h,x.f.to',x.f⟩
theorem wy_key (x y : Tl) : wyLt (tlWy x) (tlWy y) ↔ Gr.keyLt x y := by
 unfold wyLt Gr.keyLt tlWy
 simp only
 omega
theorem hless_c {w : World} {v : Value} {l : List Tl} (h : Sl w 9 v l.length (l.flatMap tlC)) {i j : Nat} (hi : i < l.length) (hj : j < l.length) : FN Tryz.prog 222 [v, i64 i, i64 j] w fun e w' => e = .returned (.bool (decide (Gr.keyLt l[i] l[j]))) ∧ Ext w w' := by
 refine FN_enter Tryz.func222 rfl rfl (by kernel_rfl) ?_
 simp
 refine WC_drawC 10 (.F 0 <| .F 1 <| .F 2 <| .F 3 <| .F 4 <| .F 5 <| .F 6 <| .F 7 <| .F 8 <| .F 9 <| .Z) (fun _ => false) rfl (by kernel_rfl) fun W hW => ?_
 have hE : Ext w W := hW ▸ Ext.drew w
 have hS := h.ext hE
 have gi := tlRow hS hi
 have gj := tlRow hS hj
 have ixi := hS.index (P := Tryz.prog) (t := 209) (by simp) .i64 i (by omega) (by omega) W
 have ixj := hS.index (P := Tryz.prog) (t := 209) (by simp) .i64 j (by omega) (by omega) W
 simp at ixi ixj
 simp [ixi,ixj,gi.c0,gi.c1,gi.c2,gi.c3,gi.c4,gi.c5,gi.c6,gi.c7,gj.c0,gj.c1,gj.c2,gj.c3,gj.c4,gj.c5,gj.c6,gj.c7]
 refine FN.mono (better_c (tlWy l[i]) (tlWy l[j]) W) ?_
 rintro _ W2 ⟨rfl,h2⟩
 simp
 exact ⟨wy_key _ _,hE.trans h2⟩
theorem hlen_c {w : World} {v : Value} {n : Nat} {cs : List Value} (h : Sl w 9 v n cs) : FN Tryz.prog 126 [v] w fun e w' => e = .returned (i64 n) ∧ w' = w := by
 refine FN_enter Tryz.func126 rfl rfl (by kernel_rfl) ?_
 simp [fun ty W => h.isLen (P := Tryz.prog) (t := 209) (by simp) ty W]
theorem atL_in {l : List Tl} {i : Nat} (h : i < l.length) : Gr.atL l i = l[i] := by
 unfold Gr.atL
 rw [List.getElem?_eq_getElem h]; rfl
theorem hswap_c {w : World} {base : Nat} {v : Value} {l : List Tl} (h : WRow w base 173 9 v l.length (l.flatMap tlC)) {i j : Nat} (hi : i < l.length) (hj : j < l.length) :
  FN Tryz.prog 225 [v,i64 i,i64 j] w fun e w' => (∃ u,e = .returned u) ∧ WRow w' base 173 9 v (Gr.lsw l i j).length ((Gr.lsw l i j).flatMap tlC) ∧ Mod (fun k => k = slB v) w w' := by
 refine FN_enter Tryz.func225 rfl rfl (by kernel_rfl) ?_
 simp
 refine WC_drawL 14 (.F 0 <| .F 1 <| .F 2 <| .F 3 <| .F 4 <| .F 5 <| .F 6 <| .F 7 <| .F 8 <| .F 9 <| .F 10 <| .F 11 <| .F 12 <| .S 13 <| .Z) (fun _ => false) (fun _ => false) (fun _ _ _ => False) rfl (by kernel_rfl) (fun _ h => h) (fun _ _ _ _ h1 h2 => h1) fun W hW => ?_
 have hE : Ext w W := hW ▸ Ext.drew w
 have hR : WRow W base 173 9 v l.length (l.flatMap tlC) := wrow_keep h fun _ hl => hE.blk _ hl
 have hS := wrow_sl hR
 have gi := tlRow hS hi
 have gj := tlRow hS hj
 have ixi := fun W => hS.index (P := Tryz.prog) (t := 209) (by simp) .i64 i (by omega) (by omega) W
 have ixj := fun W => hS.index (P := Tryz.prog) (t := 209) (by simp) .i64 j (by omega) (by omega) W
 have th := fun k => wrow_thaw hR (by omega) k
 simp at ixi ixj
 simp [ixi,ixj,gi.c0,gi.c1,gi.c2,gi.c3,gi.c4,gi.c5,gi.c6,gi.c7,gi.c8,gj.c0,gj.c1,gj.c2,gj.c3,gj.c4,gj.c5,gj.c6,gj.c7,gj.c8,th,cell_setCell]
 refine KR_mk (agr_any (((((((((((Mod.refl (fun _ => True) _).any _ _).any _ _).any _ _).any _ _).any _ _).any _ _).any _ _).any _ _).any _ _))) ?_
 have hput := wrow_put tlC (fun _ => rfl) hR i hi l[j]
 have hMp : Mod (fun k => k = slB v) W (putC W (slB v) (slO v + i * 9) (tlC l[j])) := putC_mod _ _ (Mod.refl _ _)
 generalize hW' : World.setCell _ ⟨slB v,slO v + i * 9 + 8,none⟩ _ = W'
 have e' : putC W (slB v) (slO v + i * 9) (tlC l[j]) = W' := hW'
 rw [e'] at hput hMp
 have hS' := wrow_sl hput
 have gj' := tlRow hS' (i := j) (by simpa using hj)
 have th' := fun k => wrow_thaw hput (by simp; omega) k
 simp [ixj,gj'.c0,gj'.c1,gj'.c2,gj'.c3,gj'.c4,gj'.c5,gj'.c6,gj'.c7,gj'.c8,th',cell_setCell]
 have hput2 := wrow_put tlC (fun _ => rfl) hput j (by simpa using hj) l[i]
 have hMp2 : Mod (fun k => k = slB v) W' (putC W' (slB v) (slO v + j * 9) (tlC l[i])) := putC_mod _ _ (Mod.refl _ _)
 have e : Gr.lsw l i j = (l.set i l[j]).set j l[i] := by unfold Gr.lsw; rw [atL_in hi,atL_in hj]
 rw [e]
 rw [List.length_set,List.length_set] at hput2
 rw [List.length_set,List.length_set]
 exact ⟨hput2,(hE.mod.trans hMp).trans hMp2⟩
end Go.Proofs