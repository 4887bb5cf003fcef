/-
  Contracts of the functions that the law reaches, step by step.
-/
import Derived.Test.YtigdaggjbnnjgaaSpF
namespace Go.Proofs
open Pk
set_option maxRecDepth 10000
theorem new_obj (w : World) (o : Obj) : (w.alloc o).heap[w.heap.size]? = some o := World.alloc_heap_new w o
def hasS (M : ME) (f g a : Int) : Bool := (mget (sps M (f, g)) a).isSome
theorem drop1_c {w : World} {b0 b1 b2 t R : Nat} {M : ME} {f g a : Int} (v0 : Var w b0 (ptr t)) (c0 : w.cell? ⟨b1, 0, none⟩ = some (u32 f)) (c1 : w.cell? ⟨b1, 1, none⟩ = some (u32 g)) (va : Var w b2 (u64 a)) (ht : TabAt w t R M) :
    FN Try.prog 47 [ptr b0, ptr b1, ptr b2] w fun e w' => e = .returned (.bool (!hasS M f g a)) ∧ Ext w w' := by
  refine FN_enter Try.func47 rfl rfl (by kernel_rfl) ?_
  simp [v0.cell, c0, c1, va.cell]
  refine FN.mono (has_c ht f g a) ?_
  rintro _ w1 ⟨rfl, hE⟩
  simp [hasS]
  exact hE
structure PreD (w : World) (t R : Nat) (M : ME) (p : PK) (a : Int) (W W' : World) (r : Nat) (l : ML) : Prop where
  tab : TabAt W t R M
  get : mget M p = some (r, l)
  has : (mget l a).isSome = true
  inn : MA W' r (mdel l a)
  mod : Mod (fun k => k = t ∨ k = R ∨ k = r) W W'
  cnt : W'.cell? ⟨t, 0, none⟩ = some (.int .i64 ((total M : Int) - 1))
  thaw : W'.frozen? ⟨t, 0, none⟩ = false
  cell : W'.cell? ⟨t, 1, none⟩ = some (.map (some R))
theorem len_le_total {M : ME} {p : PK} {r : Nat} {l : ML} (hn : (M.map (·.1)).Nodup) (hg : mget M p = some (r, l)) : l.length ≤ total M := by
  have := tot_del (fun x : Nat × ML => x.2.length) hn p
  rw [hg] at this
  simp only [← total_eq] at this
  omega
theorem PreD.done {w W W' : World} {t R r : Nat} {M M1 : ME} {p : PK} {a : Int} {l : ML} (h : PreD w t R M p a W W' r l) (hm : MapAt ekP ewN W' R M1) (h1 : M1 = if mdel l a = [] then mdel M p else M) :
    ∃ M', TabAt W' t R M' ∧ Mod (Foot t R M) W W' ∧ (∀ k, Foot t R M' k → Foot t R M k) ∧ (∀ q, sps M' q = if q = p then mdel (sps M q) a else sps M q) ∧ total M' + 1 = total M := by
  have ht := h.tab
  have hmm := kget_mem h.get
  have hro := refs_off ht.map.nodup ht.refs h.get
  have hrR : r ≠ R := ht.notR _ hmm
  have hlen := kdel_len (ht.inner _ hmm).nodup a
  simp only [h.has, if_true] at hlen
  have hltot := len_le_total ht.map.nodup h.get
  have hF : Mod (Foot t R M) W W' := h.mod.weaken fun k hk => by
    rcases hk with rfl | rfl | rfl
    · exact .inl rfl
    · exact .inr (.inl rfl)
    · exact .inr (.inr ⟨_, hmm, rfl⟩)
  have keepI : ∀ x ∈ M, x.1 ≠ p → MA W' x.2.1 x.2.2 := fun x hx hne => (ht.inner x hx).mod h.mod fun e => by
    rcases e with e | e | e
    · exact not_cells (ht.inner x hx) ht.cell e
    · exact ht.notR x hx e
    · exact hro x hx hne e
  by_cases h0 : mdel l a = []
  · rw [if_pos h0] at h1
    subst h1
    have htt := tot_del (fun x : Nat × ML => x.2.length) ht.map.nodup p
    rw [h.get] at htt
    simp only [← total_eq] at htt
    rw [h0] at hlen
    simp at hlen
    have hmem : ∀ x ∈ mdel M p, x ∈ M ∧ x.1 ≠ p := fun x hx => kdel_mem.1 hx
    have hn1 : total (mdel M p) + 1 = total M := by omega
    refine ⟨mdel M p, ⟨?_, h.thaw, h.cell, hm, fun x hx => keepI x (hmem x hx).1 (hmem x hx).2, ht.refs.sublist ((List.filter_sublist).map _), fun x hx => ht.notR x (hmem x hx).1, fun x hx => ht.full x (hmem x hx).1⟩, hF, ?_, ?_, hn1⟩
    · rw [h.cnt]
      congr 2; omega
    · rintro k (hk | hk | ⟨x, hx, hk⟩)
      · exact .inl hk
      · exact .inr (.inl hk)
      · exact .inr (.inr ⟨x, (hmem x hx).1, hk⟩)
    · intro q
      by_cases hq : q = p
      · subst hq
        simp [sps, kget_mdel, h.get, h0]
      · simp [sps, kget_mdel, hq]
  · rw [if_neg h0] at h1
    subst h1
    have htt := tot_set (fun x : Nat × ML => x.2.length) ht.map.nodup p (r, mdel l a)
    rw [h.get] at htt
    simp only [← total_eq] at htt
    have hn1 : total (mset M1 p (r, mdel l a)) + 1 = total M1 := by omega
    refine ⟨mset M1 p (r, mdel l a), ⟨?_, h.thaw, h.cell, ?_, ?_, ?_, ?_, ?_⟩, hF, ?_, ?_, hn1⟩
    · rw [h.cnt]
      congr 2; omega
    · obtain ⟨⟨es, c, h1, h2, h3⟩, h4⟩ := hm
      refine ⟨⟨es, c, h1, ?_, h3⟩, kset_nodup h4 _ _⟩
      rw [h2]
      exact (kset_map (v := (r, mdel l a)) h4 h.get (fun p => (ekP p.1, ewN p.2)) rfl).symm
    · intro x hx
      rcases kset_mem hx with rfl | ⟨hx, hne⟩
      · exact h.inn
      · exact keepI x hx hne
    · rw [kset_map (v := (r, mdel l a)) ht.map.nodup h.get (fun p => p.2.1) rfl]
      exact ht.refs
    · intro x hx
      rcases kset_mem hx with rfl | ⟨hx, hne⟩
      · exact hrR
      · exact ht.notR x hx
    · intro x hx
      rcases kset_mem hx with rfl | ⟨hx, hne⟩
      · exact h0
      · exact ht.full x hx
    · rintro k (hk | hk | ⟨x, hx, hk⟩)
      · exact .inl hk
      · exact .inr (.inl hk)
      · rcases kset_mem hx with rfl | ⟨hx, hne⟩
        · exact .inr (.inr ⟨_, hmm, hk⟩)
        · exact .inr (.inr ⟨x, hx, hk⟩)
    · intro q
      by_cases hq : q = p
      · subst hq
        simp [sps, kget_mset, h.get]
      · simp [sps, kget_mset, hq]
structure LocD (B b t : Nat) (f g a vv : Int) (W : World) : Prop where
  v0 : Var W B (ptr t)
  va : Var W (B + 1) (u64 a)
  p0 : W.cell? ⟨B + 1 + 1 + 1, 0, none⟩ = some (u32 f)
  p1 : W.cell? ⟨B + 1 + 1 + 1, 1, none⟩ = some (u32 g)
  st : StAt W b ⟨f, g, a, vv⟩
  ob : W.heap[B + 1 + 1]? = some (.cells #[u32 0, u32 0, u64 0, u64 0] 35 (0, 0))
theorem LocD.mod {B b t : Nat} {f g a vv : Int} {W W' : World} {S : Nat → Prop} (h : LocD B b t f g a vv W) (hM : Mod S W W') (h0 : ¬ S B) (h1 : ¬ S (B + 1)) (h2 : ¬ S (B + 1 + 1)) (h3 : ¬ S (B + 1 + 1 + 1)) (h4 : ¬ S b) : LocD B b t f g a vv W' :=
  ⟨h.v0.mod hM h0, h.va.mod hM h1, hM.cell h.p0 h3, hM.cell h.p1 h3, ⟨hM.cell h.st.c0 h4, hM.cell h.st.c1 h4, hM.cell h.st.c2 h4, hM.cell h.st.c3 h4⟩, hM.obj h.ob h2⟩
theorem LocD.ext {B b t : Nat} {f g a vv : Int} {W W' : World} (h : LocD B b t f g a vv W) (hE : Ext W W') : LocD B b t f g a vv W' :=
  h.mod (S := fun _ => False) hE.mod id id id id id
def dropSt (M : ME) (f g a : Int) : St := if hasS M f g a then ⟨f, g, a, (mget (sps M (f, g)) a).getD 0⟩ else ⟨0, 0, 0, 0⟩
set_option maxHeartbeats 2000000 in
theorem drop_c {w : World} {t R : Nat} {M : ME} (ht : TabAt w t R M) (hfew : total M ≤ 1048576) (f g a : Int) : FN Try.prog 21 [ptr t, u32 f, u32 g, u64 a] w fun e w' => e = .returned (.tuple #[stV (dropSt M f g a), .int .i64 (if hasS M f g a then 0 else 5)]) ∧ ∃ M', TabAt w' t R M' ∧ Mod (Foot t R M) w w' ∧ (∀ k, Foot t R M' k → Foot t R M k ∨ w.heap.size ≤ k) ∧
    (∀ q, sps M' q = if hasS M f g a = true ∧ q = (f, g) then mdel (sps M q) a else sps M q) ∧ total M' + (if hasS M f g a then 1 else 0) = total M := by
  refine FN_enter Try.func21 rfl rfl (by kernel_rfl) ?_
  simp
  have he : Ext w ((((w.alloc (.cells #[ptr t] 28)).alloc (.cells #[u64 a] 23)).alloc (.cells #[u32 0, u32 0, u64 0, u64 0] 35)).alloc (.cells #[u32 f, u32 g] 67)) := ((((Ext.refl w).alloc _).alloc _).alloc _).alloc _
  have v0 : Var ((((w.alloc (.cells #[ptr t] 28)).alloc (.cells #[u64 a] 23)).alloc (.cells #[u32 0, u32 0, u64 0, u64 0] 35)).alloc (.cells #[u32 f, u32 g] 67)) w.heap.size (ptr t) := (Var.new w _ _).ext ((((Ext.refl _).alloc _).alloc _).alloc _)
  have va : Var ((((w.alloc (.cells #[ptr t] 28)).alloc (.cells #[u64 a] 23)).alloc (.cells #[u32 0, u32 0, u64 0, u64 0] 35)).alloc (.cells #[u32 f, u32 g] 67)) (w.heap.size + 1) (u64 a) := by
    have := (Var.new (w.alloc (.cells #[ptr t] 28)) (u64 a) 23).ext (((Ext.refl _).alloc (.cells #[u32 0, u32 0, u64 0, u64 0] 35)).alloc (.cells #[u32 f, u32 g] 67)); simpa using this
  have ho : ((((w.alloc (.cells #[ptr t] 28)).alloc (.cells #[u64 a] 23)).alloc (.cells #[u32 0, u32 0, u64 0, u64 0] 35)).alloc (.cells #[u32 f, u32 g] 67)).heap[w.heap.size + 1 + 1]? = some (.cells #[u32 0, u32 0, u64 0, u64 0] 35 (0, 0)) := by
    have := ((Ext.refl ((((w.alloc (.cells #[ptr t] 28)).alloc (.cells #[u64 a] 23)).alloc (.cells #[u32 0, u32 0, u64 0, u64 0] 35)))).alloc (.cells #[u32 f, u32 g] 67)).obj (new_obj ((w.alloc (.cells #[ptr t] 28)).alloc (.cells #[u64 a] 23)) (.cells #[u32 0, u32 0, u64 0, u64 0] 35 (0, 0)))
    simpa using this
  have p0 : ((((w.alloc (.cells #[ptr t] 28)).alloc (.cells #[u64 a] 23)).alloc (.cells #[u32 0, u32 0, u64 0, u64 0] 35)).alloc (.cells #[u32 f, u32 g] 67)).cell? ⟨w.heap.size + 1 + 1 + 1, 0, none⟩ = some (u32 f) := by
    simp
  have p1 : ((((w.alloc (.cells #[ptr t] 28)).alloc (.cells #[u64 a] 23)).alloc (.cells #[u32 0, u32 0, u64 0, u64 0] 35)).alloc (.cells #[u32 f, u32 g] 67)).cell? ⟨w.heap.size + 1 + 1 + 1, 1, none⟩ = some (u32 g) := by
    simp
  have hsz : ((((w.alloc (.cells #[ptr t] 28)).alloc (.cells #[u64 a] 23)).alloc (.cells #[u32 0, u32 0, u64 0, u64 0] 35)).alloc (.cells #[u32 f, u32 g] 67)).heap.size = w.heap.size + 1 + 1 + 1 + 1 := by simp
  generalize ((((w.alloc (.cells #[ptr t] 28)).alloc (.cells #[u64 a] 23)).alloc (.cells #[u32 0, u32 0, u64 0, u64 0] 35)).alloc (.cells #[u32 f, u32 g] 67)) = w1 at *
  have ht1 := ht.ext he
  let qs : List Qn := [⟨.func (.func 23) #[ptr t] #[], 1, false⟩, ⟨.func (.func 47) #[] #[ptr w.heap.size, ptr (w.heap.size + 1 + 1 + 1), ptr (w.heap.size + 1)], 5, !hasS M f g a⟩]
  have hsl := Sl.made w1 (askCells qs) 70 2 2 rfl
  rw [hsz] at hsl
  have he3 := (Ext.refl w1).alloc (.cells (askCells qs).toArray 70)
  refine FN.mono (asked_c qs hsl (by simp [qs]) ?_ ?_) ?_
  · intro q hq
    simp [qs] at hq
    rcases hq with rfl | rfl <;> exact ⟨_, _, _, rfl⟩
  · intro i q hq hno w' hw'
    have hx := he3.trans hw'
    match i, hq with
    | 0, hq =>
      simp [qs] at hq; subst hq
      exact FN.mono (none_c (ht1.ext hx)) fun _ _ h => ⟨h.1, h.2 ▸ Ext.refl _⟩
    | 1, hq =>
      simp [qs] at hq; subst hq
      exact drop1_c (v0.ext hx) (hx.cell_eq p0) (hx.cell_eq p1) (va.ext hx) (ht1.ext hx)
    | i + 2, hq => simp [qs] at hq
  · rintro _ w3 ⟨rfl, h2⟩
    have hE : askE qs = if hasS M f g a then 0 else 5 := by
      cases hh : hasS M f g a <;> simp [qs, askE, hh]
    rw [hE]
    have hx := he3.trans h2
    have hX := he.trans hx
    have ht3 := ht1.ext hx
    have v03 := v0.ext hx
    have va3 := va.ext hx
    have ho3 := hx.obj ho
    have p03 := hx.cell_eq p0
    have p13 := hx.cell_eq p1
    have q0 : w3.cell? ⟨w.heap.size + 1 + 1, 0, none⟩ = some (u32 0) := by simp [World.cell?, ho3]
    have q1 : w3.cell? ⟨w.heap.size + 1 + 1, 1, none⟩ = some (u32 0) := by simp [World.cell?, ho3]
    have q2 : w3.cell? ⟨w.heap.size + 1 + 1, 2, none⟩ = some (u64 0) := by simp [World.cell?, ho3]
    have q3 : w3.cell? ⟨w.heap.size + 1 + 1, 3, none⟩ = some (u64 0) := by simp [World.cell?, ho3]
    have qf : ∀ j, w3.frozen? ⟨w.heap.size + 1 + 1, j, none⟩ = false := fun j => by simp [World.frozen?, ho3]
    cases hh : hasS M f g a with
    | false =>
      simp [q0, q1, q2, q3, qf, dropSt, hh, cell_setCell]
      have hE4 := (((hX.setCell ⟨w.heap.size + 1 + 1, 0, none⟩ (u32 0) (by simp only; omega)).setCell ⟨w.heap.size + 1 + 1, 1, none⟩ (u32 0) (by simp only; omega)).setCell ⟨w.heap.size + 1 + 1, 2, none⟩ (u64 0) (by simp only; omega)).setCell ⟨w.heap.size + 1 + 1, 3, none⟩ (u64 0) (by simp only; omega)
      exact ⟨M, ht.ext hE4, hE4.mod, fun k h => .inl h, fun _ _ => rfl, rfl⟩
    | true =>
      simp
      obtain ⟨vv, hvv⟩ : ∃ vv, mget (sps M (f, g)) a = some vv := Option.isSome_iff_exists.1 hh
      obtain ⟨r, hget⟩ : ∃ r, mget M (f, g) = some (r, sps M (f, g)) := by
        cases hg : mget M (f, g) with
        | none => simp [sps, hg, kget_nil] at hvv
        | some x => exact ⟨x.1, by simp [sps, hg]⟩
      have hmv : mv M (f, g) = .map (some r) := by simp [mv, hget, ewN]
      refine WC_drawL 13 (.F 0 <| .F 1 <| .F 2 <| .F 3 <| .F 4 <| .F 5 <| .F 6 <| .F 7 <| .F 9 <| .D 12 <| .L 8 <| .L 10 <| .F 11 <| .W 12 <| .Z) (fun _ => false) (fun _ => false) (fun _ u W => ∃ b, u = ptr b ∧ W.heap[b]? = some (.cells #[u32 0, u32 0, u64 0, u64 0] 35 (0, 0)) ∧ w3.heap.size ≤ b) rfl (by kernel_rfl) (fun _ h => h)
        (fun _ _ _ _ ⟨b, h1, h2, h3⟩ h4 => ⟨b, h1, (agr_ext h4).obj h2, h3⟩) fun W hW => ?_
      have hWE : Ext w3 W := hW ▸ Ext.drew w3
      have ht4 := ht3.ext hWE
      have v04 := v03.ext hWE
      have va4 := va3.ext hWE
      have p04 := hWE.cell_eq p03
      have p14 := hWE.cell_eq p13
      simp [v04.cell, va4.cell, p04, p14, ht4.cell]
      refine RL_float (fun W1 h1 => ?_) ?_
      · simp
        have hs := (hWE.trans (agr_ext h1)).size
        refine ⟨(Ext.refl _).alloc _, ?_⟩
        omega
      simp
      refine RL_loose fun W1 h1 => ?_
      have ht5 := ht4.ext h1
      simp [ht5.find]
      refine KR_same ?_
      simp
      refine RL_loose fun W2 h2' => ?_
      have ht6 := ht5.ext h2'
      have hlk := (ht6.inn (f, g)).lookup k23 tm72 (z23 _) a false
      rw [hvv] at hlk
      simp [hlk]
      refine KR_same ?_
      simp
      refine RL_wait fun _ W3 h3 ⟨b, hb, ho4, hlb⟩ => ?_
      subst hb
      have hE3 : Ext w3 W3 := (hWE.trans h1).trans (h2'.trans h3)
      have z0 : W3.cell? ⟨b, 0, none⟩ = some (u32 0) := by simp [World.cell?, ho4]
      have z1 : W3.cell? ⟨b, 1, none⟩ = some (u32 0) := by simp [World.cell?, ho4]
      have z2 : W3.cell? ⟨b, 2, none⟩ = some (u64 0) := by simp [World.cell?, ho4]
      have z3 : W3.cell? ⟨b, 3, none⟩ = some (u64 0) := by simp [World.cell?, ho4]
      have zf : ∀ j, W3.frozen? ⟨b, j, none⟩ = false := fun j => by simp [World.frozen?, ho4]
      simp [z0, z1, z2, z3, zf, cell_setCell]
      have hLE : Ext w3 ((((W3.setCell ⟨b, 0, none⟩ (u32 f)).setCell ⟨b, 1, none⟩ (u32 g)).setCell ⟨b, 2, none⟩ (u64 a)).setCell ⟨b, 3, none⟩ (u64 vv)) :=
        (((hE3.setCell ⟨b, 0, none⟩ (u32 f) hlb).setCell ⟨b, 1, none⟩ (u32 g) hlb).setCell ⟨b, 2, none⟩ (u64 a) hlb).setCell ⟨b, 3, none⟩ (u64 vv) hlb
      have hst : StAt ((((W3.setCell ⟨b, 0, none⟩ (u32 f)).setCell ⟨b, 1, none⟩ (u32 g)).setCell ⟨b, 2, none⟩ (u64 a)).setCell ⟨b, 3, none⟩ (u64 vv)) b ⟨f, g, a, vv⟩ := by
        refine ⟨?_, ?_, ?_, ?_⟩ <;> simp [z0, z1, z2, z3, cell_setCell]
      obtain ⟨W4, hW4⟩ : ∃ W4, W4 = ((((W3.setCell ⟨b, 0, none⟩ (u32 f)).setCell ⟨b, 1, none⟩ (u32 g)).setCell ⟨b, 2, none⟩ (u64 a)).setCell ⟨b, 3, none⟩ (u64 vv)) := ⟨_, rfl⟩
      rw [← hW4] at hLE hst ⊢
      have hL4 : LocD w.heap.size b t f g a vv W4 := ⟨v03.ext hLE, va3.ext hLE, hLE.cell_eq p03, hLE.cell_eq p13, hst, hLE.obj ho3⟩
      have hFt := ht.lt
      have hrt : r < w.heap.size := hFt r (.inr (.inr ⟨_, kget_mem hget, rfl⟩))
      have hRt : R < w.heap.size := hFt R (.inr (.inl rfl))
      have htt : t < w.heap.size := hFt t (.inl rfl)
      have hbw : w.heap.size ≤ b := by have := hX.size; omega
      obtain ⟨W5, hW5⟩ : ∃ W5, W5 = W4.drew := ⟨_, rfl⟩
      have hE5 : Ext W4 W5 := hW5 ▸ Ext.drew W4
      have hL5 := hL4.ext hE5
      have ht5 := ht3.ext (hLE.trans hE5)
      have hX5 := hX.trans (hLE.trans hE5)
      have hi5 : MA W5 r (sps M (f, g)) := ht5.inner _ (kget_mem hget)
      have hrR : r ≠ R := ht.notR _ (kget_mem hget)
      obtain ⟨W6, hdel, hm6, hM6, hs6⟩ := hi5.delete (P := Try.prog) k23 tm72 a 23 0
      refine WC_drawQ 7 rfl (by kernel_rfl) ?_
      rw [← hW5]
      simp [hL5.v0.cell, hL5.va.cell, hL5.p0, hL5.p1, ht5.cell, ht5.find, hmv, hdel]
      have hL6 := hL5.mod hM6 (by omega) (by omega) (by omega) (by omega) (by omega)
      obtain ⟨W7, hW7⟩ : ∃ W7, W7 = W6.drew := ⟨_, rfl⟩
      have hE7 : Ext W6 W7 := hW7 ▸ Ext.drew W6
      have hL7 := hL6.ext hE7
      have hR7 : MapAt ekP ewN W7 R M := (ht5.map.mod hM6 hrR.symm).ext hE7
      have c7 := hE7.cell_eq (map_off hi5 hM6 ht5.cell)
      have n7 := hE7.cell_eq (map_off hi5 hM6 ht5.cnt)
      have hi7 := hm6.ext hE7
      have hM57 : Mod (fun k => k = t ∨ k = R ∨ k = r) W5 W7 := (hM6.weaken fun k hk => .inr (.inr hk)).trans hE7.mod
      have f7 : W7.frozen? ⟨t, 0, none⟩ = false := by
        have hf := thaw_off hi5 hM6 ht5.cnt ht5.thaw
        have hb := hE7.blk t (World.block_lt_of_cell? _ _ (map_off hi5 hM6 ht5.cell))
        rw [← hf]; unfold World.frozen?; simp only [hb]
      have fin : ∀ (W Wf : World) (M1 : ME), MapAt ekP ewN W R M1 → M1 = (if mdel (sps M (f, g)) a = [] then mdel M (f, g) else M) → MA W r (mdel (sps M (f, g)) a) → Mod (fun k => k = t ∨ k = R ∨ k = r) W5 W → W.cell? ⟨t, 0, none⟩ = some (.int .i64 (total M)) →
          W.frozen? ⟨t, 0, none⟩ = false → W.cell? ⟨t, 1, none⟩ = some (.map (some R)) →
          Wf = ((((W.setCell ⟨t, 0, none⟩ (.int .i64 ((total M : Int) - 1))).setCell ⟨w.heap.size + 1 + 1, 0, none⟩ (u32 f)).setCell ⟨w.heap.size + 1 + 1, 1, none⟩ (u32 g)).setCell ⟨w.heap.size + 1 + 1, 2, none⟩ (u64 a)).setCell ⟨w.heap.size + 1 + 1, 3, none⟩ (u64 vv) →
          ∃ M', TabAt Wf t R M' ∧ Mod (Foot t R M) w Wf ∧ (∀ k, Foot t R M' k → Foot t R M k ∨ w.heap.size ≤ k) ∧ (∀ a' b', sps M' (a', b') = if a' = f ∧ b' = g then mdel (sps M (a', b')) a else sps M (a', b')) ∧ total M' + 1 = total M := by
        intro W Wf M1 g1 g2 g3 g4 g5 g6 g7 hWf
        obtain ⟨Wa, hWa⟩ : ∃ Wa, Wa = W.setCell ⟨t, 0, none⟩ (.int .i64 ((total M : Int) - 1)) := ⟨_, rfl⟩
        rw [← hWa] at hWf
        have hMa : Mod (· = t) W Wa := hWa ▸ Mod.setCell (Mod.refl _ W) _ _ (.inl rfl)
        have hD : PreD w t R M (f, g) a W5 Wa r (sps M (f, g)) := by
          refine ⟨ht5, hget, hh, g3.mod hMa (not_cells g3 g5), g4.trans (hMa.weaken fun k hk => .inl hk), ?_, ?_, ?_⟩
          · rw [hWa]; exact World.cell?_setCell_same _ _ _ g5
          · rw [hWa, World.frozen?_setCell]; exact g6
          · rw [hWa, cell_setCell, if_neg (by omega)]; exact g7
        obtain ⟨M', e1, e2, e3, e4, e5⟩ := hD.done (g1.mod hMa (not_cells g1 g5)) g2
        have hMf : Mod (fun k => k = w.heap.size + 1 + 1) Wa Wf := by
          rw [hWf]
          have m := fun (X : World) (hX : Mod (fun k => k = w.heap.size + 1 + 1) Wa X) (j : Nat) (v : Value) => hX.setCell ⟨w.heap.size + 1 + 1, j, none⟩ v (.inl rfl)
          exact m _ (m _ (m _ (m _ (Mod.refl _ Wa) 0 _) 1 _) 2 _) 3 _
        refine ⟨M', e1.mod hMf fun k hk e => ?_, ?_, fun k hk => .inl (e3 k hk), fun a' b' => ?_, e5⟩
        · have := hFt k (e3 k hk); omega
        · exact (hX5.mod.trans e2).trans' hMf fun k hk => .inr (by omega)
        · simpa using e4 (a', b')
      have hlen := hi7.len (P := Try.prog) (T := 72) (by simp) 3
      have w1_ : IntKind.i64.wrap ((total M : Int) - 1) = (total M : Int) - 1 := wrap64 _ (by omega) (by omega)
      have hfind7 := find' hR7 f g
      rw [hmv] at hfind7
      have rc : ∀ W : World, W.heap[w.heap.size + 1 + 1]? = some (.cells #[u32 0, u32 0, u64 0, u64 0] 35 (0, 0)) → W.cell? ⟨w.heap.size + 1 + 1, 0, none⟩ = some (u32 0) ∧ W.cell? ⟨w.heap.size + 1 + 1, 1, none⟩ = some (u32 0) ∧ W.cell? ⟨w.heap.size + 1 + 1, 2, none⟩ = some (u64 0) ∧ W.cell? ⟨w.heap.size + 1 + 1, 3, none⟩ = some (u64 0) ∧ ∀ j, W.frozen? ⟨w.heap.size + 1 + 1, j, none⟩ = false := by
        intro W h
        refine ⟨?_, ?_, ?_, ?_, fun j => ?_⟩ <;> simp [World.cell?, World.frozen?, h]
      have ne2 : ¬ w.heap.size + 1 + 1 = t := by omega
      have ne3 : ¬ b = t := by omega
      refine WC_drawQ 5 rfl (by kernel_rfl) ?_
      rw [← hW7]
      by_cases h0 : mdel (sps M (f, g)) a = []
      · rw [h0] at hlen
        simp [hL7.v0.cell, hL7.p0, hL7.p1, c7, hfind7, hlen]
        obtain ⟨W8, hdel8, hm8, hM8, hs8⟩ := (hR7.ext (Ext.drew W7)).delete (P := Try.prog) k67 tm61 (f, g) 67 0
        have hL7d := hL7.ext (Ext.drew W7)
        refine WC_drawQ 5 rfl (by kernel_rfl) ?_
        simp [ekP, pkc] at hdel8
        simp [hL7d.v0.cell, hL7d.p0, hL7d.p1, c7, hdel8]
        have hL8 := hL7d.mod hM8 (by omega) (by omega) (by omega) (by omega) (by omega)
        have ⟨r0, r1, r2, r3, rf⟩ := rc W8 hL8.ob
        have hR7d := hR7.ext (Ext.drew W7)
        have n8 := map_off hR7d hM8 ((Ext.drew W7).cell_eq n7)
        have f8 := thaw_off hR7d hM8 ((Ext.drew W7).cell_eq n7) (by simpa using f7)
        have c8 := map_off hR7d hM8 ((Ext.drew W7).cell_eq c7)
        have hi8 := (hi7.ext (Ext.drew W7)).mod hM8 hrR
        have hfin := fin W8 _ _ hm8 (by rw [if_pos h0]) hi8 (hM57.trans ((Ext.drew W7).mod.trans (hM8.weaken fun k hk => .inr (.inl hk)))) n8 f8 c8 rfl
        simp [hL8.v0.cell, n8, f8, w1_, hL8.st.c0, hL8.st.c1, hL8.st.c2, hL8.st.c3, r0, r1, r2, r3, rf, cell_setCell, ne2, ne3]
        exact ⟨by simp [dropSt, hh, hvv], hfin⟩
      · have hl0 : (((mdel (sps M (f, g)) a).length : Int) == 0) = false := by simpa using h0
        have ⟨r0, r1, r2, r3, rf⟩ := rc W7 hL7.ob
        have hfin := fin W7 _ _ hR7 (by rw [if_neg h0]) hi7 hM57 n7 f7 c7 rfl
        simp [hL7.v0.cell, hL7.p0, hL7.p1, c7, hfind7, hlen, hl0, n7, f7, w1_, hL7.st.c0, hL7.st.c1, hL7.st.c2, hL7.st.c3, r0, r1, r2, r3, rf, cell_setCell, ne2, ne3]
        exact ⟨by simp [dropSt, hh, hvv], hfin⟩
end Go.Proofs
