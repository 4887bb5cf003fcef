/-
 Contracts of the functions that the law reaches,step by step.
-/
import Derived.Test.YtmmneeomcefgbaaGreatDoorAgH
import Derived.Lib.Strings
import Derived.Test.YtmmneeomcefgbaaGreatDoorAuC
import Derived.Test.YtmmneeomcefgbaaGreatDoorAeP
namespace Go.Proofs
open Pk
set_option maxRecDepth 10000
inductive Cd (tx : ByteArray → Option Bool) : Nat → It → Prop
 | uint (d : Nat) (n : Int) (h0 : 0 ≤ n) (h1 : n ≤ 18446744073709551615) : Cd tx (d + 1) (uintI n)
 | byts (d : Nat) (b : List Int) (hb : ∀ x ∈ b,0 ≤ x ∧ x ≤ 255) : Cd tx (d + 1) (.mk 2 0 b ⟨#[]⟩ [])
 | text (d : Nat) (s : ByteArray) (hs : tx s = some true) : Cd tx (d + 1) (.mk 3 0 [] s [])
 | bool (d : Nat) (n : Int) (h : n = 0 ∨ n = 1) : Cd tx (d + 1) (.mk 5 n [] ⟨#[]⟩ [])
 | null (d : Nat) : Cd tx (d + 1) (.mk 6 0 [] ⟨#[]⟩ [])
 | list (d : Nat) (l : List It) (h : ∀ x ∈ l,Cd tx d x) : Cd tx (d + 1) (listI l)
theorem Cd.n_b {tx : ByteArray → Option Bool} {d : Nat} {t : It} (h : Cd tx d t) : 0 ≤ t.n ∧ t.n ≤ 18446744073709551615 := by
 cases h with
 | uint d n h0 h1 => exact ⟨h0,h1⟩
 | byts d b hb => exact ⟨Int.le_refl 0,by simp [It.n]⟩
 | text d s hs => exact ⟨Int.le_refl 0,by simp [It.n]⟩
 | bool d n h => simp only [It.n]; omega
 | null d => exact ⟨Int.le_refl 0,by simp [It.n]⟩
 | list d l h => exact ⟨Int.le_refl 0,by simp [It.n,listI]⟩
theorem Cd.sub {tx : ByteArray → Option Bool} {d : Nat} {t : It} (h : Cd tx d t) : ∃ e, ∀ x ∈ t.l, Cd tx e x := by
 cases h with
 | list d l h => exact ⟨d,h⟩
 | uint d n h0 h1 => exact ⟨0,fun x hx => by simp [It.l,uintI] at hx⟩
 | byts d b hb => exact ⟨0,fun x hx => by simp [It.l] at hx⟩
 | text d s hs => exact ⟨0,fun x hx => by simp [It.l] at hx⟩
 | bool d n h => exact ⟨0,fun x hx => by simp [It.l] at hx⟩
 | null d => exact ⟨0,fun x hx => by simp [It.l] at hx⟩
theorem Cd.uint_of {tx : ByteArray → Option Bool} {d : Nat} {t : It} (h : Cd tx d t) (hk : t.k = 1) : t = uintI t.n := by
 cases h <;> first | rfl | simp [It.k,listI] at hk
theorem Cd.bool_of {tx : ByteArray → Option Bool} {d : Nat} {t : It} (h : Cd tx d t) (hk : t.k = 5) : t = boolI (decide (t.n = 1)) := by
 cases h with
 | bool d n h => rcases h with rfl | rfl <;> rfl
 | uint d n h0 h1 => simp [It.k,uintI] at hk
 | byts d b hb => simp [It.k] at hk
 | text d s hs => simp [It.k] at hk
 | null d => simp [It.k] at hk
 | list d l h => simp [It.k,listI] at hk
theorem Cd.list_of {tx : ByteArray → Option Bool} {d : Nat} {t : It} (h : Cd tx d t) (hk : t.k = 4) : t = listI t.l := by
 cases h <;> first | rfl | simp [It.k,uintI] at hk
theorem upI_inv {tx : ByteArray → Option Bool} {d : Nat} {l r : List It} {bd n : Int} (hl : ∀ x ∈ l, Cd tx d x) (h : upI l bd = some (n, r)) : l = uintI n :: r ∧ (0 ≤ n ∧ n ≤ bd) ∧ ∀ x ∈ r, Cd tx d x := by
 unfold upI at h
 split at h
 ·cases h
 ·rename_i x r'
  split at h
  ·rename_i hc
   simp only [Option.some.injEq,Prod.mk.injEq] at h
   obtain ⟨rfl,rfl⟩ := h
   have hx := hl x (by simp)
   exact ⟨by rw [← hx.uint_of hc.1],⟨hx.n_b.1,hc.2⟩,fun y hy => hl y (by simp [hy])⟩
  ·cases h
theorem yesI_inv {tx : ByteArray → Option Bool} {d : Nat} {l r : List It} {u : Bool} (hl : ∀ x ∈ l, Cd tx d x) (h : yesI l = some (u, r)) : l = boolI u :: r ∧ ∀ x ∈ r, Cd tx d x := by
 unfold yesI at h
 split at h
 ·cases h
 ·rename_i x r'
  split at h
  ·rename_i hc
   simp only [Option.some.injEq,Prod.mk.injEq] at h
   obtain ⟨rfl,rfl⟩ := h
   have hx := hl x (by simp)
   exact ⟨by rw [← hx.bool_of hc],fun y hy => hl y (by simp [hy])⟩
  ·cases h
theorem rdAsk_inv {tx : ByteArray → Option Bool} {d : Nat} {l l' : List It} {r0 r : Rec} (hl : ∀ x ∈ l, Cd tx d x) (h : rdAsk r0 l = some (r, l')) : ∃ a b c : Int, l = [uintI a, uintI b, uintI c] ++ l' ∧ (0 ≤ a ∧ a ≤ 4294967295) ∧ (0 ≤ b ∧ b ≤ 4294967295) ∧ (0 ≤ c ∧ c ≤ 4294967295) ∧ r = { r0 with num := a, node := b, reg := c } := by
 unfold rdAsk at h
 obtain ⟨⟨a,l1⟩,h1,h⟩ := Option.bind_eq_some_iff.1 h
 obtain ⟨⟨b,l2⟩,h2,h⟩ := Option.bind_eq_some_iff.1 h
 obtain ⟨⟨c,l3⟩,h3,h⟩ := Option.bind_eq_some_iff.1 h
 obtain ⟨e1,b1,c1⟩ := upI_inv hl h1
 obtain ⟨e2,b2,c2⟩ := upI_inv c1 h2
 obtain ⟨e3,b3,c3⟩ := upI_inv c2 h3
 simp only [Option.some.injEq,Prod.mk.injEq] at h
 obtain ⟨rfl,rfl⟩ := h
 exact ⟨a,b,c,by rw [e1,e2,e3]; rfl,b1,b2,b3,rfl⟩
theorem rdMem_inv {tx : ByteArray → Option Bool} {d : Nat} {l l' : List It} {r0 r : Rec} (hl : ∀ x ∈ l, Cd tx d x) (h : rdMem r0 l = some (r, l')) : ∃ (a b c : Int) (u : Bool), l = [uintI a, uintI b, uintI c, boolI u] ++ l' ∧ (0 ≤ a ∧ a ≤ 4294967295) ∧ (0 ≤ b ∧ b ≤ 4294967295) ∧ (0 ≤ c ∧ c ≤ 4294967295) ∧ r = { r0 with node := a, reg := b, num := c, yes := u } := by
 unfold rdMem at h
 obtain ⟨⟨a,l1⟩,h1,h⟩ := Option.bind_eq_some_iff.1 h
 obtain ⟨⟨b,l2⟩,h2,h⟩ := Option.bind_eq_some_iff.1 h
 obtain ⟨⟨c,l3⟩,h3,h⟩ := Option.bind_eq_some_iff.1 h
 obtain ⟨⟨u,l4⟩,h4,h⟩ := Option.bind_eq_some_iff.1 h
 obtain ⟨e1,b1,c1⟩ := upI_inv hl h1
 obtain ⟨e2,b2,c2⟩ := upI_inv c1 h2
 obtain ⟨e3,b3,c3⟩ := upI_inv c2 h3
 obtain ⟨e4,c4⟩ := yesI_inv c3 h4
 simp only [Option.some.injEq,Prod.mk.injEq] at h
 obtain ⟨rfl,rfl⟩ := h
 exact ⟨a,b,c,u,by rw [e1,e2,e3,e4]; rfl,b1,b2,b3,rfl⟩
theorem rdTell_inv {tx : ByteArray → Option Bool} {d : Nat} {l l' : List It} {r0 r : Rec} (hl : ∀ x ∈ l, Cd tx d x) (h : rdTell r0 l = some (r, l')) : ∃ (a b c : Int) (u : Bool) (e : Int), l = [uintI a, uintI b, uintI c, boolI u, uintI e] ++ l' ∧ (0 ≤ a ∧ a ≤ 4294967295) ∧ (0 ≤ b ∧ b ≤ 4294967295) ∧ (0 ≤ c ∧ c ≤ 4294967295) ∧ (0 ≤ e ∧ e ≤ 4611686018427387903) ∧ r = { r0 with num := a, node := b, reg := c, yes := u, til := e } := by
 unfold rdTell at h
 obtain ⟨⟨a,l1⟩,h1,h⟩ := Option.bind_eq_some_iff.1 h
 obtain ⟨⟨b,l2⟩,h2,h⟩ := Option.bind_eq_some_iff.1 h
 obtain ⟨⟨c,l3⟩,h3,h⟩ := Option.bind_eq_some_iff.1 h
 obtain ⟨⟨u,l4⟩,h4,h⟩ := Option.bind_eq_some_iff.1 h
 obtain ⟨⟨e,l5⟩,h5,h⟩ := Option.bind_eq_some_iff.1 h
 obtain ⟨e1,b1,c1⟩ := upI_inv hl h1
 obtain ⟨e2,b2,c2⟩ := upI_inv c1 h2
 obtain ⟨e3,b3,c3⟩ := upI_inv c2 h3
 obtain ⟨e4,c4⟩ := yesI_inv c3 h4
 obtain ⟨e5,b5,c5⟩ := upI_inv c4 h5
 simp only [Option.some.injEq,Prod.mk.injEq] at h
 obtain ⟨rfl,rfl⟩ := h
 exact ⟨a,b,c,u,e,by rw [e1,e2,e3,e4,e5]; rfl,b1,b2,b3,b5,rfl⟩
theorem rdFore_inv {tx : ByteArray → Option Bool} {d : Nat} {l l' : List It} {r0 r : Rec} (hl : ∀ x ∈ l, Cd tx d x) (h : rdFore r0 l = some (r, l')) : ∃ a b c e : Int, l = [uintI a, uintI b, uintI c, uintI e] ++ l' ∧ (0 ≤ a ∧ a ≤ 4294967295) ∧ (0 ≤ b ∧ b ≤ 4611686018427387903) ∧ (0 ≤ c ∧ c ≤ 4611686018427387903) ∧ (0 ≤ e ∧ e ≤ 3) ∧ r = { r0 with node := a, fro := b, til := c, lev := e } := by
 unfold rdFore at h
 obtain ⟨⟨a,l1⟩,h1,h⟩ := Option.bind_eq_some_iff.1 h
 obtain ⟨⟨b,l2⟩,h2,h⟩ := Option.bind_eq_some_iff.1 h
 obtain ⟨⟨c,l3⟩,h3,h⟩ := Option.bind_eq_some_iff.1 h
 obtain ⟨⟨e,l4⟩,h4,h⟩ := Option.bind_eq_some_iff.1 h
 obtain ⟨e1,b1,c1⟩ := upI_inv hl h1
 obtain ⟨e2,b2,c2⟩ := upI_inv c1 h2
 obtain ⟨e3,b3,c3⟩ := upI_inv c2 h3
 obtain ⟨e4,b4,c4⟩ := upI_inv c3 h4
 simp only [Option.some.injEq,Prod.mk.injEq] at h
 obtain ⟨rfl,rfl⟩ := h
 exact ⟨a,b,c,e,by rw [e1,e2,e3,e4]; rfl,b1,b2,b3,b4,rfl⟩
theorem rdRep_inv {tx : ByteArray → Option Bool} {d : Nat} {l l' : List It} {r0 r : Rec} (hl : ∀ x ∈ l, Cd tx d x) (h : rdRep r0 l = some (r, l')) : ∃ (n : Nam) (a b c : Int), l = [nameI n, uintI a, uintI b, uintI c] ++ l' ∧ nameE n = 0 ∧ NamOk n ∧ (0 ≤ a ∧ a ≤ 4) ∧ (0 ≤ b ∧ b ≤ 6) ∧ (0 ≤ c ∧ c ≤ 4611686018427387903) ∧ r = { r0 with nn := n.nn, ns := n.ns, nt := n.nt, nq := n.nq, what := a, why := b, at' := c } := by
 unfold rdRep at h
 split at h
 ·cases h
 rename_i x l0
 split at h
 ·rename_i hx
  obtain ⟨⟨a,l1⟩,h1,h⟩ := Option.bind_eq_some_iff.1 h
  obtain ⟨⟨b,l2⟩,h2,h⟩ := Option.bind_eq_some_iff.1 h
  obtain ⟨⟨c,l3⟩,h3,h⟩ := Option.bind_eq_some_iff.1 h
  obtain ⟨e1,b1,c1⟩ := upI_inv (fun y hy => hl y (by simp [hy])) h1
  obtain ⟨e2,b2,c2⟩ := upI_inv c1 h2
  obtain ⟨e3,b3,c3⟩ := upI_inv c2 h3
  simp only [Option.some.injEq,Prod.mk.injEq] at h
  obtain ⟨rfl,rfl⟩ := h
  unfold namF at hx
  rw [Bool.and_eq_true] at hx
  have hx1 := of_decide_eq_true hx.1
  have hx2 := of_decide_eq_true hx.2
  refine ⟨namN x,a,b,c,?_,hx1,namOfL_ok _,b1,b2,b3,rfl⟩
  rw [e1,e2,e3,← hx2]; rfl
 ·cases h
theorem times_ok {a b c : Int} (h1 : a ≤ 4611686018427387903) (h2 : b ≤ 4611686018427387903) (h3 : c ≤ 4611686018427387903) : timesOk [a,b,c] = true := by simp [timesOk,h1,h2,h3]
theorem right_mk {r : Rec} (hk : 1 ≤ r.kind ∧ r.kind ≤ 5) (hf : fineR r = true) (hn : r.num ≤ 4294967295) (ht : r.at' ≤ 4611686018427387903 ∧ r.fro ≤ 4611686018427387903 ∧ r.til ≤ 4611686018427387903) (hb : bareR r = r) : rightE r = 0 := by
 unfold rightE chk
 rw [if_pos hk,if_pos hf,if_neg (by omega),if_pos (times_ok ht.1 ht.2.1 ht.2.2),if_pos (decide_eq_true hb)]
theorem readRec_inv {tx : ByteArray → Option Bool} {d : Nat} {t : It} {r : Rec} (ht : Cd tx d t) (h : readRec t = some r) : RecOk r ∧ rightE r = 0 ∧ t = itemR r := by
 unfold readRec at h
 split at h
 case isFalse => cases h
 rename_i h4
 obtain ⟨e,hc⟩ := ht.sub
 have htl := ht.list_of h4
 split at h
 ·cases h
 rename_i x0 l hl
 rw [hl] at hc htl
 split at h
 case isFalse => cases h
 rename_i hx
 have hx0 := (hc x0 (by simp)).uint_of hx.1
 have hcl : ∀ y ∈ l,Cd tx e y := fun y hy => hc y (by simp [hy])
 unfold readO at h
 obtain ⟨⟨r',l'⟩,h1,h⟩ := Option.bind_eq_some_iff.1 h
 simp only at h
 split at h
 case isFalse => cases h
 rename_i hb
 rw [Bool.and_eq_true] at hb
 have hnil : l' = [] := by simpa using hb.1
 subst hnil
 have hf := hb.2
 cases h
 obtain ⟨k,hk⟩ : ∃ k,k = x0.n := ⟨_,rfl⟩
 rw [← hk] at hx h1 hf hx0
 have hcase : k = 1 ∨ k = 2 ∨ k = 3 ∨ k = 4 ∨ k = 5 := by omega
 unfold rdKd at h1
 unfold fbKd at hf
 rcases hcase with e1 | e1 | e1 | e1 | e1
 ·rw [if_pos e1] at h1 hf
  obtain ⟨n,a,b,c,hl',hn0,hno,ha,hb',hc',rfl⟩ := rdRep_inv hcl h1
  have ht3 := (nameE_inv hn0).2
  have hnt : 0 ≤ n.nt := by
   have hm := hcl (nameI n) (by rw [hl']; simp)
   obtain ⟨e',hs⟩ := hm.sub
   exact (hs (uintI n.nt) (by simp [nameI,listI,It.l])).n_b.1
  subst e1
  refine ⟨⟨hno.nn, hno.ns, ⟨hnt, by simp only; omega⟩, hno.nq, ?_, ?_, ?_, ?_, ?_, ?_, ?_, ?_, ?_⟩, right_mk ⟨by simp, by simp⟩ ?_ ?_ ?_ ?_, ?_⟩ <;> simp only [rec0] at hf ⊢ <;> try omega
  ·unfold fineR; rw [if_pos rfl]; exact hf
  ·rfl
  ·rw [htl,hx0,hl',List.append_nil]
   rfl
 ·rw [if_neg (by omega),if_pos e1] at h1
  rw [if_neg (by omega),if_neg (by omega)] at hf
  obtain ⟨a,b,c,hl',ha,hb',hc',rfl⟩ := rdAsk_inv hcl h1
  subst e1
  refine ⟨⟨?_, ?_, ?_, ?_, ?_, ?_, ?_, ?_, ?_, ?_, ?_, ?_, ?_⟩, right_mk ⟨by simp, by simp⟩ ?_ ?_ ?_ ?_, ?_⟩ <;> simp only [rec0] at hf ⊢ <;> try omega
  ·unfold fineR; rw [if_neg (by simp),if_neg (by simp)]; exact hf
  ·rfl
  ·rw [htl,hx0,hl',List.append_nil]
   rfl
 ·rw [if_neg (by omega),if_neg (by omega),if_pos e1] at h1
  rw [if_neg (by omega),if_neg (by omega)] at hf
  obtain ⟨a,b,c,u,e',hl',ha,hb',hc',he',rfl⟩ := rdTell_inv hcl h1
  subst e1
  refine ⟨⟨?_, ?_, ?_, ?_, ?_, ?_, ?_, ?_, ?_, ?_, ?_, ?_, ?_⟩, right_mk ⟨by simp, by simp⟩ ?_ ?_ ?_ ?_, ?_⟩ <;> simp only [rec0] at hf ⊢ <;> try omega
  ·unfold fineR; rw [if_neg (by simp),if_neg (by simp)]; exact hf
  ·rfl
  ·rw [htl,hx0,hl',List.append_nil]
   rfl
 ·rw [if_neg (by omega),if_neg (by omega),if_neg (by omega),if_pos e1] at h1
  rw [if_neg (by omega),if_pos e1] at hf
  obtain ⟨a,b,c,e',hl',ha,hb',hc',he',rfl⟩ := rdFore_inv hcl h1
  subst e1
  refine ⟨⟨?_, ?_, ?_, ?_, ?_, ?_, ?_, ?_, ?_, ?_, ?_, ?_, ?_⟩, right_mk ⟨by simp, by simp⟩ ?_ ?_ ?_ ?_, ?_⟩ <;> simp only [rec0] at hf ⊢ <;> try omega
  ·unfold fineR; rw [if_neg (by simp),if_pos rfl]; exact hf
  ·rfl
  ·rw [htl,hx0,hl',List.append_nil]
   rfl
 ·rw [if_neg (by omega),if_neg (by omega),if_neg (by omega),if_neg (by omega)] at h1
  rw [if_neg (by omega),if_neg (by omega)] at hf
  obtain ⟨a,b,c,u,hl',ha,hb',hc',rfl⟩ := rdMem_inv hcl h1
  subst e1
  refine ⟨⟨?_, ?_, ?_, ?_, ?_, ?_, ?_, ?_, ?_, ?_, ?_, ?_, ?_⟩, right_mk ⟨by simp, by simp⟩ ?_ ?_ ?_ ?_, ?_⟩ <;> simp only [rec0] at hf ⊢ <;> try omega
  ·unfold fineR; rw [if_neg (by simp),if_neg (by simp)]; exact hf
  ·rfl
  ·rw [htl,hx0,hl',List.append_nil]
   rfl
theorem rdRep_I {r r0 : Rec} (hr : RecOk r) (hn : nameE (namR r) = 0) (hw : r.what ≤ 4) (hy : r.why ≤ 6) (ha : r.at' ≤ 4611686018427387903) : rdRep r0 (repI r) = some ({ r0 with nn := r.nn, ns := r.ns, nt := r.nt, nq := r.nq, what := r.what, why := r.why, at' := r.at' }, []) := by
 have hno : NamOk (namR r) := ⟨hr.nn,hr.ns,hr.nq⟩
 unfold rdRep repI
 simp only
 rw [if_pos (namF_nameI _ hno hn),upI_cons rfl (show (uintI r.what).n ≤ _ from hw),Option.bind_some,upI_cons rfl (show (uintI r.why).n ≤ _ from hy),Option.bind_some,upI_cons rfl (show (uintI r.at').n ≤ _ from ha),Option.bind_some,namN_nameI _ hno (nameE_inv hn).1]
 rfl
theorem readRec_item {r : Rec} (hr : RecOk r) (h0 : rightE r = 0) : readRec (itemR r) = some r := by
 obtain ⟨hk,hf,hn,ht3,hb⟩ := right_inv h0
 have hlist : (itemR r).l = uintI r.kind :: partsR r := rfl
 unfold readRec
 rw [if_pos (show (itemR r).k = 4 from rfl),hlist]
 simp only
 rw [if_pos ⟨rfl,hk⟩,show (uintI r.kind).n = r.kind from rfl]
 have fin : ∀ {x : Rec}, rdKd r.kind (partsR r) = some (x, []) → x = r → fbKd r.kind r = true → readO (rdKd r.kind (partsR r)) (fbKd r.kind) = some r := fun {x} h1 h2 h3 => by
  subst h2
  unfold readO
  rw [h1,Option.bind_some]
  simp only
  rw [if_pos (by rw [h3]; rfl)]
 have hcase : r.kind = 1 ∨ r.kind = 2 ∨ r.kind = 3 ∨ r.kind = 4 ∨ r.kind = 5 := by omega
 unfold fineR at hf
 unfold bareR at hb
 rcases hcase with e | e | e | e | e
 ·rw [if_pos e] at hf hb
  obtain ⟨i1,i2,i3,i4,i5⟩ := repF_inv hf
  refine fin (x := repB r) ?_ hb (by unfold fbKd; rw [if_pos e]; exact hf)
  unfold rdKd partsR
  rw [if_pos e,if_pos e,rdRep_I hr i1 (by omega) (by omega) ht3.1]
  rfl
 ·rw [if_neg (by omega),if_neg (by omega)] at hf
  rw [if_neg (by omega),if_pos e] at hb
  refine fin (x := askBr r) ?_ hb (by unfold fbKd; rw [if_neg (by omega),if_neg (by omega)]; exact hf)
  unfold rdKd partsR
  rw [if_neg (by omega),if_pos e,if_neg (by omega),if_pos e,rdAsk_I hr hn]
  rfl
 ·rw [if_neg (by omega),if_neg (by omega)] at hf
  rw [if_neg (by omega),if_neg (by omega),if_pos e] at hb
  refine fin (x := tellB r) ?_ hb (by unfold fbKd; rw [if_neg (by omega),if_neg (by omega)]; exact hf)
  unfold rdKd partsR
  rw [if_neg (by omega),if_neg (by omega),if_pos e,if_neg (by omega),if_neg (by omega),if_pos e,rdTell_I hr hn ht3.2.2]
  rfl
 ·rw [if_neg (by omega),if_pos e] at hf
  rw [if_neg (by omega),if_neg (by omega),if_neg (by omega),if_pos e] at hb
  have hlev : r.lev ≤ 3 := by
   unfold foreF at hf
   simp only [Bool.and_eq_true] at hf
   exact of_decide_eq_true hf.2.2
  refine fin (x := foreB r) ?_ hb (by unfold fbKd; rw [if_neg (by omega),if_pos e]; exact hf)
  unfold rdKd partsR
  rw [if_neg (by omega),if_neg (by omega),if_neg (by omega),if_pos e,if_neg (by omega),if_neg (by omega),if_neg (by omega),if_pos e,rdFore_I hr ht3.2.1 ht3.2.2 hlev]
  rfl
 ·rw [if_neg (by omega),if_neg (by omega)] at hf
  rw [if_neg (by omega),if_neg (by omega),if_neg (by omega),if_neg (by omega)] at hb
  refine fin (x := memB r) ?_ hb (by unfold fbKd; rw [if_neg (by omega),if_neg (by omega)]; exact hf)
  unfold rdKd partsR
  rw [if_neg (by omega),if_neg (by omega),if_neg (by omega),if_neg (by omega),if_neg (by omega),if_neg (by omega),if_neg (by omega),if_neg (by omega),rdMem_I hr hn]
  rfl
theorem nAt_b {tx : ByteArray → Option Bool} {d : Nat} {l : List It} (hl : ∀ x ∈ l, Cd tx d x) (j : Nat) : 0 ≤ nAt l j ∧ nAt l j ≤ 18446744073709551615 := by
 unfold nAt
 split
 ·rename_i x hx
  exact (hl x (List.mem_of_getElem? hx)).n_b
 ·omega
theorem recOfD_ok {tx : ByteArray → Option Bool} {d : Nat} {l : List It} (hl : ∀ x ∈ l, Cd tx d x) {k : Int} {r : Rec} (h : recOfD k l = some r) : RecOk r := by
 have b1 := nAt_b hl 1
 have b2 := nAt_b hl 2
 have b3 := nAt_b hl 3
 have b4 := nAt_b hl 4
 have b5 := nAt_b hl 5
 unfold recOfD at h
 split at h
 ·split at h
  ·rename_i x hx
   split at h
   ·rename_i n hn
    cases h
    have hc := hl x (List.mem_of_getElem? hx)
    obtain ⟨e,he⟩ := hc.sub
    have hno := nameOfD_ok hn (fun y hy => (he y hy).n_b) (fun y hy z hz u hu => by
     obtain ⟨e2,he2⟩ := (he y hy).sub
     obtain ⟨e3,he3⟩ := (he2 z hz).sub
     exact (he3 u hu).n_b.1)
    refine ⟨hno.1.nn,hno.1.ns,hno.2,hno.1.nq,?_,?_,?_,?_,?_,?_,?_,?_,?_⟩ <;> simp only [rec0] <;> omega
   ·cases h
  ·cases h
 split at h
 ·cases h; refine ⟨?_,?_,?_,?_,?_,?_,?_,?_,?_,?_,?_,?_,?_⟩ <;> simp only [rec0] <;> omega
 split at h
 ·cases h; refine ⟨?_,?_,?_,?_,?_,?_,?_,?_,?_,?_,?_,?_,?_⟩ <;> simp only [rec0] <;> omega
 split at h
 ·cases h; refine ⟨?_,?_,?_,?_,?_,?_,?_,?_,?_,?_,?_,?_,?_⟩ <;> simp only [rec0] <;> omega
 ·cases h; refine ⟨?_,?_,?_,?_,?_,?_,?_,?_,?_,?_,?_,?_,?_⟩ <;> simp only [rec0] <;> omega
theorem ofD_ok {tx : ByteArray → Option Bool} {d : Nat} {t : It} {r : Rec} (ht : Cd tx d t) (h : ofD t = some r) : RecOk r := by
 obtain ⟨e,he⟩ := ht.sub
 unfold ofD at h
 split at h
 ·split at h
  ·cases h
  ·split at h
   ·split at h
    ·split at h
     ·cases h
     ·rename_i r' hr
      split at h
      ·cases h; exact recOfD_ok he hr
      ·cases h
    ·cases h
   ·cases h
 ·cases h
theorem readRec_eq {tx : ByteArray → Option Bool} {d : Nat} {t : It} (ht : Cd tx d t) : readRec t = ofD t := by
 cases h : readRec t with
 | some r =>
  obtain ⟨h1,h2,h3⟩ := readRec_inv ht h
  rw [h3,ofD_item h1 h2]
 | none =>
  cases h' : ofD t with
  | none => rfl
  | some r =>
   obtain ⟨h2,h3⟩ := ofD_inv h'
   have := readRec_item (ofD_ok ht h') h2
   rw [← h3,h] at this
   cases this
end Go.Proofs
namespace Go.Proofs
open Pk
set_option maxRecDepth 10000
theorem list_strOfNums {x : List Int} (hx : ∀ c ∈ x, 0 ≤ c ∧ c ≤ 255) : (strOfNums x).toList.map (fun c => (c.toNat : Int)) = x := by
 rw [Lib.toList_data]; exact nums_back hx
theorem headP_q {bs rest : List Int} {m n : Int} (h : headP bs = some (m, n, rest)) : headQ bs rest m n = true := by
 cases bs with
 | nil => cases h
 | cons c r =>
  rw [headP_cons] at h
  split at h
  ·split at h
   ·cases h; assumption
   ·cases h
  ·split at h
   ·split at h
    ·split at h
     ·simp only [Option.some.injEq,Prod.mk.injEq] at h
      obtain ⟨rfl,rfl,rfl⟩ := h
      assumption
     ·cases h
    ·cases h
   ·cases h
theorem headP_canon {bs rest : List Int} {m n : Int} (hok : ∀ x ∈ bs, 0 ≤ x ∧ x ≤ 255) (h : headP bs = some (m, n, rest)) : bs = headB m n ++ rest := by
 have hq := headP_q h
 obtain ⟨-,-,pre,rfl,-⟩ := headP_b hok h
 unfold headQ beg at hq
 simp only [Bool.and_eq_true,decide_eq_true_eq] at hq
 obtain ⟨⟨h1,h2⟩,h3⟩ := hq
 have hl : pre.length = (headB m n).length := by
  rw [List.length_append] at h3
  omega
 rw [← hl,List.take_left] at h2
 rw [h2]
theorem listP_cd {tx : ByteArray → Option Bool} {d : Nat} {p : List Int → Except Int (It × List Int)} (hp : ∀ bs t rest, (∀ x ∈ bs, 0 ≤ x ∧ x ≤ 255) → p bs = .ok (t, rest) → Cd tx d t ∧ bs = bytesI t ++ rest) :
  ∀ (n : Nat) (bs : List Int) (l : List It) (rest : List Int),(∀ x ∈ bs,0 ≤ x ∧ x ≤ 255) → listP p n bs = .ok (l,rest) → l.length = n ∧ (∀ x ∈ l,Cd tx d x) ∧ bs = bytesL l ++ rest
 | 0, bs, l, rest, _, h => by
  simp only [listP,Except.ok.injEq,Prod.mk.injEq] at h
  obtain ⟨rfl,rfl⟩ := h
  exact ⟨rfl,by simp,by rw [bytesL]; rfl⟩
 | n + 1, bs, l, rest, hb, h => by
  simp only [listP] at h
  split at h
  ·cases h
  ·rename_i x r hx
   split at h
   ·cases h
   ·rename_i l' r' hl
    simp only [Except.ok.injEq,Prod.mk.injEq] at h
    obtain ⟨rfl,rfl⟩ := h
    obtain ⟨c1,rfl⟩ := hp _ _ _ hb hx
    obtain ⟨c2,c3,rfl⟩ := listP_cd hp n r l' r' (fun x hx => hb x (by simp [hx])) hl
    refine ⟨by simp [c2],fun y hy => ?_,by rw [bytesL,List.append_assoc]⟩
    rcases List.mem_cons.1 hy with rfl | hy
    ·exact c1
    ·exact c3 y hy
theorem itemP_cd {tx : ByteArray → Option Bool} : ∀ (f : Nat) (bs : List Int) (t : It) (rest : List Int), (∀ x ∈ bs, 0 ≤ x ∧ x ≤ 255) → itemP tx f bs = .ok (t, rest) → Cd tx f t ∧ bs = bytesI t ++ rest
 | 0,bs,t,rest,_,h => by simp [itemP] at h
 | f + 1, bs, t, rest, hb, h => by
  simp only [itemP] at h
  split at h
  ·rename_i hc
   cases h
   refine ⟨.bool f 0 (.inl rfl),?_⟩
   conv => lhs; rw [beg_one hc]
   rw [show simpleI 0 = .mk 5 0 [] ⟨#[]⟩ [] from rfl,bytesI_bool]
   rfl
  split at h
  ·rename_i hc
   cases h
   refine ⟨.bool f 1 (.inr rfl),?_⟩
   conv => lhs; rw [beg_one hc]
   rw [show simpleI 1 = .mk 5 1 [] ⟨#[]⟩ [] from rfl,bytesI_bool]
   rfl
  split at h
  ·rename_i hc
   cases h
   refine ⟨.null f,?_⟩
   conv => lhs; rw [beg_one hc]
   rw [show simpleI 2 = .mk 6 0 [] ⟨#[]⟩ [] from rfl,bytesI]
   rfl
  unfold headedP at h
  split at h
  ·cases h
  ·rename_i m n r hh
   have hcan := headP_canon hb hh
   obtain ⟨hm,hn,-⟩ := headP_b hb hh
   have hr : ∀ x ∈ r,0 ≤ x ∧ x ≤ 255 := fun x hx => hb x (by rw [hcan]; simp [hx])
   unfold tailP at h
   split at h
   ·rename_i h0
    cases h
    subst h0
    refine ⟨.uint f n hn.1 hn.2,?_⟩
    rw [hcan]
    exact congrArg (· ++ _) (bytesI_uint n).symm
   split at h
   ·rename_i h2
    split at h
    ·rename_i hle
     cases h
     subst h2
     refine ⟨.byts f _ fun x hx => hr x (List.mem_of_mem_take hx),?_⟩
     have hl : (r.take n.toNat).length = n.toNat := by rw [List.length_take]; omega
     have e : bytesI (.mk 2 0 (r.take n.toNat) ⟨#[]⟩ []) = headB 2 n ++ r.take n.toNat := by
      rw [bytesI,if_neg (by decide),if_pos rfl,hl,Int.toNat_of_nonneg hn.1]
     rw [e,List.append_assoc,List.take_append_drop]
     exact hcan
    ·cases h
   split at h
   ·rename_i h3
    split at h
    ·rename_i hle
     split at h
     ·cases h
     ·rename_i htx
      cases h
      subst h3
      refine ⟨.text f _ htx,?_⟩
      have hl : (r.take n.toNat).length = n.toNat := by rw [List.length_take]; omega
      have hrt : ∀ c ∈ r.take n.toNat,0 ≤ c ∧ c ≤ 255 := fun x hx => hr x (List.mem_of_mem_take hx)
      have e : bytesI (.mk 3 0 [] (strOfNums (r.take n.toNat)) []) = headB 3 n ++ r.take n.toNat := by
       rw [bytesI,if_neg (by decide),if_neg (by decide),if_pos rfl,strOfNums_size,hl,Int.toNat_of_nonneg hn.1,list_strOfNums hrt]
      rw [e,List.append_assoc,List.take_append_drop]
      exact hcan
     ·cases h
    ·cases h
   split at h
   ·rename_i h4
    split at h
    ·cases h
    ·rename_i l r' hl
     cases h
     subst h4
     obtain ⟨c1,c2,c3⟩ := listP_cd (fun bs t rest hb h => itemP_cd f bs t rest hb h) n.toNat r l rest hr hl
     refine ⟨.list f l c2,?_⟩
     rw [show It.mk 4 0 [] ⟨#[]⟩ l = listI l from rfl,bytesI_list,c1,Int.toNat_of_nonneg hn.1,List.append_assoc,← c3]
     exact hcan
   ·cases h
theorem decP_cd {tx : ByteArray → Option Bool} {bs : List Int} {t : It} (hb : ∀ x ∈ bs, 0 ≤ x ∧ x ≤ 255) (h : decP tx bs = .ok t) : Cd tx 8 t ∧ bs = bytesI t := by
 unfold decP firstP at h
 split at h
 ·cases h
 ·rename_i t' rest hf
  split at h
  ·rename_i hr
   cases h
   subst hr
   split at hf
   ·have := itemP_cd 8 bs t [] hb hf
    rwa [List.append_nil] at this
   ·cases hf
  ·cases h
theorem headB_pos (m n : Int) : 0 < (headB m n).length := by unfold headB; split <;> simp
theorem bytesI_pos {tx : ByteArray → Option Bool} {d : Nat} {t : It} (h : Cd tx d t) : 0 < (bytesI t).length := by
 have := headB_pos
 cases h with
 | uint d n h0 h1 => rw [bytesI_uint]; exact headB_pos _ _
 | byts d b hb => rw [bytesI,if_neg (by decide),if_pos rfl,List.length_append]; have := headB_pos 2 b.length; omega
 | text d s hs => rw [bytesI,if_neg (by decide),if_neg (by decide),if_pos rfl,List.length_append]; have := headB_pos 3 s.size; omega
 | bool d n h => rw [bytesI_bool]; simp
 | null d => rw [bytesI]; simp
 | list d l h => rw [bytesI_list,List.length_append]; have := headB_pos 4 l.length; omega
theorem bytesL_ge {tx : ByteArray → Option Bool} {d : Nat} {l : List It} (h : ∀ x ∈ l, Cd tx d x) : l.length ≤ (bytesL l).length := by
 induction l with
 | nil => simp
 | cons x l ih =>
  rw [bytesL,List.length_append,List.length_cons]
  have := bytesI_pos (h x (by simp))
  have := ih fun y hy => h y (by simp [hy])
  omega
theorem uintsOf_len {tx : ByteArray → Option Bool} {d : Nat} {t : It} (h : Cd tx d t) : (uintsOf t).length ≤ (bytesI t).length := by
 unfold uintsOf
 split
 ·rename_i hk
  rw [List.length_map]
  refine Nat.le_trans (List.length_filter_le _ _) ?_
  obtain ⟨e,he⟩ := h.sub
  have h4 := h.list_of hk
  have := bytesL_ge he
  conv => rhs; rw [h4]
  rw [bytesI_list,List.length_append]
  omega
 ·simp
theorem flat_len {tx : ByteArray → Option Bool} {d : Nat} {l : List It} (g : It → List Int) (k : Nat) (h : ∀ x ∈ l, Cd tx d x) (hg : ∀ x ∈ l, (g x).length ≤ k * (bytesI x).length) : (l.flatMap g).length ≤ k * (bytesL l).length := by
 induction l with
 | nil => simp
 | cons x l ih =>
  rw [List.flatMap_cons,bytesL,List.length_append,List.length_append,Nat.mul_add]
  have := hg x (by simp)
  have := ih (fun y hy => h y (by simp [hy])) fun y hy => hg y (by simp [hy])
  omega
theorem Cd.subL {tx : ByteArray → Option Bool} {d : Nat} {t : It} (h : Cd tx d t) : (bytesL t.l).length ≤ (bytesI t).length := by
 cases h with
 | list d l h => rw [bytesI_list,List.length_append]; simp only [listI,It.l]; omega
 | uint d n h0 h1 => simp [uintI,It.l,bytesL]
 | byts d b hb => simp [It.l,bytesL]
 | text d s hs => simp [It.l,bytesL]
 | bool d n h => simp [It.l,bytesL]
 | null d => simp [It.l,bytesL]
theorem numsY_len {tx : ByteArray → Option Bool} {d : Nat} {t : It} (h : Cd tx d t) : (numsY t).length ≤ 2 * (bytesI t).length := by
 unfold numsY
 rw [List.length_append]
 have h1 := uintsOf_len h
 obtain ⟨e,he⟩ := h.sub
 have h2 := flat_len uintsOf 1 he fun x hx => by have := uintsOf_len (he x hx); omega
 have h3 := h.subL
 omega
theorem numsOf_len {tx : ByteArray → Option Bool} {d : Nat} {t : It} (h : Cd tx d t) : (numsOf t).length ≤ 3 * (bytesI t).length := by
 unfold numsOf
 rw [List.length_append]
 have h1 := uintsOf_len h
 obtain ⟨e,he⟩ := h.sub
 have h2 := flat_len numsY 2 he fun x hx => numsY_len (he x hx)
 have h3 := h.subL
 omega
end Go.Proofs
namespace Go.Proofs
open Pk
set_option maxRecDepth 10000
attribute [local simp] beq_dec bne_dec
noncomputable def decRec (bs : List Int) : Rec × Int := match decP txA bs with
 | .error c => (rec0,c)
 | .ok t => match ofD t with
  | none => (rec0,180)
  | some r => (r,0)
theorem Cd.nn {tx : ByteArray → Option Bool} {d : Nat} {t : It} (h : Cd tx d t) : (∀ x ∈ t.l, 0 ≤ x.n ∧ x.n ≤ 18446744073709551615) ∧ (∀ x ∈ t.l, ∀ y ∈ x.l, 0 ≤ y.n ∧ y.n ≤ 18446744073709551615) ∧ (∀ x ∈ t.l, ∀ y ∈ x.l, ∀ z ∈ y.l, ∀ u ∈ z.l, 0 ≤ u.n) := by
 obtain ⟨e1,h1⟩ := h.sub
 refine ⟨fun x hx => (h1 x hx).n_b, fun x hx y hy => ?_, fun x hx y hy z hz u hu => ?_⟩
 ·obtain ⟨e2,h2⟩ := (h1 x hx).sub
  exact (h2 y hy).n_b
 ·obtain ⟨e2,h2⟩ := (h1 x hx).sub
  obtain ⟨e3,h3⟩ := (h2 y hy).sub
  obtain ⟨e4,h4⟩ := (h3 z hz).sub
  exact (h4 u hu).n_b.1
theorem adecodeA_c {w : World} (hT : Tabs w) {v : Value} {bs : List Int} (h : SlB w 1 v bs.length (bs.map u8)) (hok : ∀ x ∈ bs, 0 ≤ x ∧ x ≤ 255) (hbl : bs.length ≤ 65536) :
  FN Tryz.prog 125 [v] w fun e w' => e = .returned (.tuple #[recV (decRec bs).1,i64 (decRec bs).2]) ∧ Ext w w' := by
 have hd := adecode_c (o := ofD) (txt_txA hT) h hok (firstP_ne bs) (by omega) (fun t ht W cs hit => by
  obtain ⟨hcd,rfl⟩ := decP_cd hok ht
  have hr := readAny_c hit (fun y hy => (hcd.nn.1 y hy).1) (fun x hx => by
   obtain ⟨e,he⟩ := hcd.sub
   have h1 := numsOf_len (he x hx)
   have h2 := hcd.subL
   have h3 := bytesL_mem hx
   omega)
  rw [readRec_eq hcd] at hr
  exact hr)
 refine FN.mono hd ?_
 rintro e w' hA
 refine ⟨?_,hA.ext⟩
 unfold decRec
 cases hx : decP txA bs with
 | error c => exact hA.err c hx
 | ok t =>
  cases ho : ofD t with
  | none => simp only [ho]; exact hA.none t hx ho
  | some r => simp only [ho]; exact hA.some t r hx ho
end Go.Proofs