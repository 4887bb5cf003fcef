/-
  Contracts of the functions that the law reaches,step by step.
-/
import Derived.Test.YtmmneeomcefgbaaGreatDoorScL
namespace Go.Proofs
open Pk
set_option maxRecDepth 10000
attribute [local simp] beq_dec bne_dec
/-! ### Bytes and truths as text -/
def hxc (n : Nat) : UInt8 := hexL.getD n 0
def hexT : List UInt8 → Tx
  | [] => []
  | c :: r => hxc (c.toNat / 16) :: hxc (c.toNat % 16) :: hexT r
def hexO (b : List UInt8) : Tx := if b = [] then [45] else hexT b
theorem hexT_append : ∀ (a b : List UInt8), hexT (a ++ b) = hexT a ++ hexT b
  | [],b => rfl
  | c :: r,b => by simp [hexT,hexT_append r b]
theorem hexT_len : ∀ (a : List UInt8), (hexT a).length = 2 * a.length
  | [] => rfl
  | c :: r => by simp [hexT,hexT_len r]; omega
theorem mod_below {B : Nat} {w w' : World} (h : Go.RowKit.Below B w w') : Mod (fun k => B ≤ k) w w' := ⟨h.os,h.tape,h.output,h.size,fun b _ hb => h.block b (by omega)⟩
theorem builder0 (w : World) (B : Nat) (h : B ≤ w.heap.size) : Lib.IsBuilderF 136 5 B w.heap.size [] (w.alloc (.cells #[.pointer none, .slice none 0 0] 136)) := by
  refine .inl ⟨h, _, World.alloc_heap_new w _, ?_, ?_⟩
  · exact Go.World.ownsRowF_of (own_nothing _ _ _ _)
  · simp [Value.ownBlock]
abbrev hexB : ByteArray := ⟨#[48,49,50,51,52,53,54,55,56,57,97,98,99,100,101,102]⟩
theorem hx_el : ∀ n : Fin 16,((hexB[n.val]'(show n.val < hexB.size from n.isLt)).toNat : Int) = (hxc n.val).toNat := by decide +kernel
theorem hx_ix (n : Nat) (h : n < 16) (W : World) : (Instr.index 9 (.string hexB) (.int .u8 (n : Int))).run Tryz.prog W = .ok (u8 (hxc n).toNat) W := by
  have hs : hexB.size = 16 := rfl
  rw [r_index_str Tryz.prog W 9 hexB .u8 n (by simp) (by rw [hs]; exact h)]
  rw [hx_el ⟨n,h⟩]
theorem shr4 : ∀ n : Fin 256,shrI .u8 (n.val : Int) 4 = ((n.val / 16 : Nat) : Int) := by decide +kernel
theorem and15 : ∀ n : Fin 256,andI .u8 (n.val : Int) 15 = ((n.val % 16 : Nat) : Int) := by decide +kernel
set_option maxHeartbeats 1000000 in
theorem hex_c {w : World} {v : Value} {b : List UInt8} (h : SlB w 1 v b.length (b.map encB)) (hl : b.length ≤ 1000000) : FN Tryz.prog 116 [v] w fun e w' => e = .returned (tv (hexO b)) ∧ Ext w w' := by
  refine FN_enter Tryz.func116 rfl rfl (by kernel_rfl) ?_
  have ln := fun ty W => h.isLen (P := Tryz.prog) (t := 27) (by simp) ty W
  by_cases hb : b = []
  · subst hb
    simp [ln]
    exact ⟨by simp [hexO],Ext.refl _⟩
  have hp : ¬ (b.length : Int) = 0 := by have := List.length_pos_iff.2 hb; omega
  have h0 := builder0 w w.heap.size (Nat.le_refl _)
  have hE0 : Ext w (w.alloc (.cells #[.pointer none,.slice none 0 0] 136)) := (Ext.refl _).alloc _
  simp [ln,hb]
  obtain ⟨B,hB⟩ : ∃ B,w.heap.size = B := ⟨_,rfl⟩
  have hsl := h.lt (by simp; have := List.length_pos_iff.2 hb; omega)
  rw [hB] at h0 hsl ⊢
  generalize (w.alloc (.cells #[.pointer none,.slice none 0 0] 136)) = w0 at *
  refine WC_loop (fun m ρ ds w' => ∃ (i : Nat), m = b.length - i ∧ i ≤ b.length ∧ ρ 3 = ptr B ∧ ρ 9 = v ∧ ρ 10 = i64 b.length ∧ ρ 11 = i64 i ∧ ds = [] ∧ Lib.IsBuilderF 136 5 B B (Lib.byteCells (hexT (b.take i))) w' ∧ Mod (fun k => B ≤ k) w w') b.length
    ⟨0,by simp,by simp,rfl,rfl,rfl,rfl,rfl,by simpa [hexT,Lib.byteCells] using h0,hE0.mod⟩ ?_
  rintro m ρ ds w3 ⟨i,rfl,hi,e3,e9,e10,e11,rfl,hI,hM⟩
  by_cases hlt : i < b.length
  · have hlt' : (i : Int) < b.length := by omega
    have sW := h.mod hM (fun _ => by omega)
    have ik := fun W => sW.index (P := Tryz.prog) (t := 27) (by simp) .i64 i (by omega) (by omega) W
    have ck := sW.at_ i (encB b[i]) (by simp [hlt])
    have sh := shr4 ⟨b[i].toNat,b[i].toNat_lt⟩
    have an := and15 ⟨b[i].toNat,b[i].toNat_lt⟩
    have x1 := fun W => hx_ix (b[i].toNat / 16) (by have := b[i].toNat_lt; omega) W
    have x2 := fun W => hx_ix (b[i].toNat % 16) (by omega) W
    simp only at sh an
    simp [-Int.natCast_emod,-Int.natCast_ediv,e3,e9,e10,e11,hlt,ik,ck,sh,x1]
    have hle : (hexT (b.take i)).length ≤ 2000000 := by rw [hexT_len,List.length_take]; omega
    refine FN.mono (FN_of_calls Tryz.func127 rfl rfl (Tryz.Builder_WriteByte_k B B _ ((hxc (b[i].toNat / 16)).toNat : Int) w3 hI (by rw [Lib.byteCells_length]; omega) (by have := hM.size; omega))) ?_
    rintro _ w4 ⟨rfl,h4,b4,-⟩
    have M4 := hM.trans (mod_below b4)
    have e4 : Lib.byteCells (hexT (b.take i)) ++ [u8 ((hxc (b[i].toNat / 16)).toNat : Int)] = Lib.byteCells (hexT (b.take i) ++ [hxc (b[i].toNat / 16)]) := by rw [Lib.byteCells_append]; rfl
    rw [e4] at h4
    simp [-Int.natCast_emod,-Int.natCast_ediv,e3,an,x2]
    refine FN.mono (FN_of_calls Tryz.func127 rfl rfl (Tryz.Builder_WriteByte_k B B _ ((hxc (b[i].toNat % 16)).toNat : Int) w4 (.inr h4) (by rw [Lib.byteCells_length,List.length_append]; simp; omega) (by have := M4.size; omega))) ?_
    rintro _ w5 ⟨rfl,h5,b5,-⟩
    have M5 := M4.trans (mod_below b5)
    have e5 : Lib.byteCells (hexT (b.take i) ++ [hxc (b[i].toNat / 16)]) ++ [u8 ((hxc (b[i].toNat % 16)).toNat : Int)] = Lib.byteCells (hexT (b.take (i + 1))) := by
      rw [List.take_add_one,hexT_append,Lib.byteCells_append,Lib.byteCells_append,List.getElem?_eq_getElem hlt,List.append_assoc]
      rfl
    rw [e5] at h5
    have wi : IntKind.i64.wrap ((i : Int) + 1) = i + 1 := wrap64 _ (by omega) (by omega)
    simp [e3,e9,e10,e11,wi]
    exact ⟨b.length - (i + 1),by omega,i + 1,rfl,by omega,by omega,.inr h5,M5⟩
  · have hi' : i = b.length := by omega
    subst hi'
    simp [e3,e10,e11]
    rw [List.take_length] at hI
    refine FN.mono (FN_of_calls Tryz.func88 rfl rfl (Tryz.Builder_String_any_k B B _ w3 hI (by have := hM.size; omega))) ?_
    rintro _ w4 ⟨rfl,-,b4,-⟩
    simp
    exact ⟨by simp [hexO,hb],(hM.trans (mod_below b4)).ext fun _ h => by omega⟩
def bitT (b : Bool) : UInt8 := if b then 49 else 48
def bitsO (l : List Bool) : Tx := if l = [] then [45] else l.map bitT
theorem keyEq_bool {K : TypeId} (hK : Tryz.prog.underlying K = some .bool) : KeyEq Tryz.prog K Value.bool where
  find := by
    intro k es m w he
    have hu := run_und hK w
    have key : ∀ (es : List MapEntry) (m : List Bool) (i : Nat), es.map (·.key) = m.map Value.bool →
        Instr.findNow .bool (.bool k) es i = some ((m.findIdx? (fun x => decide (x = k))).bind fun j => (es[j]?).map fun e => (i + j,e.val)) := by
      intro es
      induction es with
      | nil => intro m i h; cases m with
        | nil => rfl
        | cons => simp at h
      | cons e es ih =>
        intro m i h
        cases m with
        | nil => simp at h
        | cons x m =>
          simp only [List.map_cons,List.cons.injEq] at h
          simp only [Instr.findNow,h.1,Instr.sameNow,List.findIdx?_cons]
          by_cases hx : x = k
          · subst hx; simp
          · have h1 : (k == x) = false := by simpa using Ne.symm hx
            simp only [h1,ih m (i + 1) h.2,hx,decide_false]
            cases m.findIdx? (fun x => decide (x = k)) with
            | none => rfl
            | some j => simp only [Option.map_some,Option.bind_some]; congr 2; funext e; congr 1; omega
    unfold Instr.findKey
    simp only [Sem.run_bind,hu,Result.andThen_ok,key es m 0 he,Sem.run_pure]
    simp
  check := by
    intro b k w
    have hu := run_und hK w
    have e : ∀ d, (Instr.checkKey b (d + 1) K (.bool k)).run Tryz.prog w = .ok () w := fun d => by
      simp only [Instr.checkKey,Sem.run_bind,hu,Result.andThen_ok,Sem.run_pure]
    exact e 9999
  same := by
    intro k w
    have e : Instr.sameBits 10000 (.bool k) (.bool k) = true := by cases k <;> rfl
    unfold Instr.keyThatStays
    rw [if_pos e]
    rfl
theorem builder_ext {T e : TypeId} {B b : Nat} {bs : List Value} {w w' : World} (h : Lib.IsBuilderF T e B b bs w) (hE : Ext w w') : Lib.IsBuilderF T e B b bs w' := by
  have k : ∀ p, Lib.BuilderAtF T e B b p bs w → Lib.BuilderAtF T e B b p bs w' := by
    rintro p ⟨h1,v,h2,h3,h4⟩
    refine ⟨h1,v,by rw [hE.blk b (Array.getElem?_eq_some_iff.1 h2).1]; exact h2,⟨h3.1,?_⟩,h4⟩
    rcases h3.2 with hn | ⟨g, cap, cur, fz, hv, hb, hg, rest⟩
    · exact .inl hn
    · exact .inr ⟨g,cap,cur,fz,hv,hb,by rw [hE.blk g (Array.getElem?_eq_some_iff.1 hg).1]; exact hg,rest⟩
  exact h.elim (fun x => .inl (k _ x)) (fun x => .inr (k _ x))
theorem kbo : KeyEq Tryz.prog 4 Value.bool := keyEq_bool (by simp)
theorem tbm : Tryz.prog.underlying 178 = some (.map 4 5) := by simp
theorem zby (w : World) : (zeroValue 5).run Tryz.prog w = .ok (u8 0) w := by simp
set_option maxHeartbeats 1000000 in
theorem bits_c {w : World} {v : Value} {b : List Bool} (h : SlB w 1 v b.length (b.map Value.bool)) (hl : b.length ≤ 1000000) : FN Tryz.prog 79 [v] w fun e w' => e = .returned (tv (bitsO b)) ∧ Ext w w' := by
  refine FN_enter Tryz.func79 rfl rfl (by kernel_rfl) ?_
  have ln := fun ty W => h.isLen (P := Tryz.prog) (t := 43) (by simp) ty W
  by_cases hb : b = []
  · subst hb
    simp [ln]
    exact ⟨by simp [bitsO],Ext.refl _⟩
  have h0 := builder0 w w.heap.size (Nat.le_refl _)
  have hE0 : Ext w (w.alloc (.cells #[.pointer none,.slice none 0 0] 136)) := (Ext.refl _).alloc _
  simp [ln,hb]
  obtain ⟨B,hB⟩ : ∃ B,w.heap.size = B := ⟨_,rfl⟩
  have hsl := h.lt (by simp; have := List.length_pos_iff.2 hb; omega)
  rw [hB] at h0 hsl ⊢
  generalize (w.alloc (.cells #[.pointer none,.slice none 0 0] 136)) = w0 at *
  refine WC_loop (fun m ρ ds w' => ∃ (i : Nat), m = b.length - i ∧ i ≤ b.length ∧ ρ 3 = ptr B ∧ ρ 9 = v ∧ ρ 10 = i64 b.length ∧ ρ 11 = i64 i ∧ ds = [] ∧ Lib.IsBuilderF 136 5 B B (Lib.byteCells ((b.take i).map bitT)) w' ∧ Mod (fun k => B ≤ k) w w') b.length
    ⟨0,by simp,by simp,rfl,rfl,rfl,rfl,rfl,by simpa [Lib.byteCells] using h0,hE0.mod⟩ ?_
  rintro m ρ ds w3 ⟨i,rfl,hi,e3,e9,e10,e11,rfl,hI,hM⟩
  by_cases hlt : i < b.length
  · have sW := h.mod hM (fun _ => by omega)
    have ik := fun W => sW.index (P := Tryz.prog) (t := 43) (by simp) .i64 i (by omega) (by omega) W
    have ck := sW.at_ i (.bool b[i]) (by simp [hlt])
    have m0 := MapAt.alloc0 Value.bool (fun n : Int => u8 n) w3
    have hE3 : Ext w3 (w3.alloc (.map #[] 0)) := (Ext.refl _).alloc _
    have hm3 : Mod (fun k => w3.heap.size ≤ k) w3 (w3.alloc (.map #[] 0)) := hE3.mod
    obtain ⟨w4,u4,m4,H4,-⟩ := m0.update (P := Tryz.prog) kbo tbm false 48
    obtain ⟨w5,u5,m5,H5,-⟩ := m4.update (P := Tryz.prog) kbo tbm true 49
    have E5 : Ext w3 w5 := ((hm3.trans (H4.weaken fun k hk => by omega)).trans (H5.weaken fun k hk => by omega)).ext fun _ h => h
    have lk := m5.lookup (P := Tryz.prog) kbo tbm (zby w5) b[i] false
    have lv : ((mget (mset (mset [] false (48 : Int)) true 49) b[i]).map (fun n : Int => u8 n)).getD (u8 0) = u8 ((bitT b[i]).toNat : Int) := by cases b[i] <;> rfl
    rw [lv] at lk
    simp only [Bool.false_eq_true,if_false] at lk
    have hI5 := builder_ext hI E5
    have M5 : Mod (fun k => B ≤ k) w w5 := hM.trans E5.mod
    simp [e3,e9,e10,e11,hlt,ik,ck,u4,u5,lk]
    refine FN.mono (FN_of_calls Tryz.func127 rfl rfl (Tryz.Builder_WriteByte_k B B _ ((bitT b[i]).toNat : Int) w5 hI5 (by rw [Lib.byteCells_length]; simp; omega) (by have := M5.size; omega))) ?_
    rintro _ w6 ⟨rfl,h6,b6,-⟩
    have M6 := M5.trans (mod_below b6)
    have e6 : Lib.byteCells ((b.take i).map bitT) ++ [u8 ((bitT b[i]).toNat : Int)] = Lib.byteCells ((b.take (i + 1)).map bitT) := by
      rw [List.take_add_one,List.map_append,Lib.byteCells_append,List.getElem?_eq_getElem hlt]
      rfl
    rw [e6] at h6
    have wi : IntKind.i64.wrap ((i : Int) + 1) = i + 1 := wrap64 _ (by omega) (by omega)
    simp [e3,e9,e10,e11,wi]
    exact ⟨b.length - (i + 1),by omega,i + 1,rfl,by omega,by omega,by rw [← List.map_take]; exact .inr h6,M6⟩
  · have hi' : i = b.length := by omega
    subst hi'
    simp [e3,e10,e11]
    rw [List.take_length] at hI
    refine FN.mono (FN_of_calls Tryz.func88 rfl rfl (Tryz.Builder_String_any_k B B _ w3 hI (by have := hM.size; omega))) ?_
    rintro _ w4 ⟨rfl,-,b4,-⟩
    simp
    exact ⟨by simp [bitsO,hb],(hM.trans (mod_below b4)).ext fun _ h => by omega⟩
end Go.Proofs
