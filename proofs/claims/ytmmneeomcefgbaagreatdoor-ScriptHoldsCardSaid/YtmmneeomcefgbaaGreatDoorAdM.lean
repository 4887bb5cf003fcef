/-
 Contracts of the functions that the law reaches,step by step.
-/
import Derived.Test.YtmmneeomcefgbaaGreatDoorAdJ
import Derived.Test.YtmmneeomcefgbaaGreatDoorAfA
import Derived.Laws.RangeString
namespace Go.Proofs
open Pk
set_option maxRecDepth 10000
theorem kd_none {r : Nat} {w : World} (hm : MapAt (Value.int .i64) agE w r kdL) {k : Int} (hk : mget kdL k = none) (W : World) (hW : Ext w W) :
  (Instr.lookup 211 (.map (some r)) (i64 k) true).run Tryz.prog W = .ok (.tuple #[agE [.string ⟨#[]⟩,.nilFunc,.nilFunc,.nilFunc],.bool false]) W := by
 have := (hm.ext hW).lookup (P := Tryz.prog) krk tkd (zkd W) k true
 rw [hk] at this
 simpa using this
set_option maxHeartbeats 2000000 in
theorem check_x {r : Rec} (hk : mget kdL r.kind = none) (w : World) :
  FN Tryz.prog 148 [recV r] w fun e w' => e = .returned (i64 2) ∧ Ext w w' := by
 refine FN_enter Tryz.func148 rfl rfl (by kernel_rfl) ?_
 simp
 have hE1 : Ext w (w.alloc (.cells #[i64 r.kind,u32 r.nn,u32 r.ns,u64 r.nt,u32 r.nq,i64 r.what,i64 r.why,u64 r.at',u64 r.num,u32 r.node,u32 r.reg,.bool r.yes,u64 r.fro,u64 r.til,u8 r.lev] 42)) := (Ext.refl w).alloc _
 have o1 : Blk (w.alloc (.cells #[i64 r.kind,u32 r.nn,u32 r.ns,u64 r.nt,u32 r.nq,i64 r.what,i64 r.why,u64 r.at',u64 r.num,u32 r.node,u32 r.reg,.bool r.yes,u64 r.fro,u64 r.til,u8 r.lev] 42)) w.heap.size (recC r) := Blk.new w (recC r) 42
 generalize (w.alloc (.cells #[i64 r.kind,u32 r.nn,u32 r.ns,u64 r.nt,u32 r.nq,i64 r.what,i64 r.why,u64 r.at',u64 r.num,u32 r.node,u32 r.reg,.bool r.yes,u64 r.fro,u64 r.til,u8 r.lev] 42)) = w1 at *
 refine WC_drawL 9 (.F 1 <| .F 2 <| .D 7 <| .L 0 <| .L 3 <| .F 4 <| .F 5 <| .F 6 <| .W 7 <| .S 8 <| .Z) (fun _ => false) (fun _ => false) (fun _ u W => ∃ j, u = ptr j ∧ w1.heap.size ≤ j ∧ Blk W j [.string ⟨#[]⟩, .nilFunc, .nilFunc, .nilFunc]) rfl (by kernel_rfl) (fun _ h => h)
  (fun _ _ _ _ ⟨j,h1,h2,h3⟩ hA => ⟨j,h1,h2,h3.ext (agr_ext hA)⟩) fun W hW => ?_
 have hWE : Ext w1 W := hW ▸ Ext.drew w1
 have r2 := o1.ext hWE
 simp [r2.cell 0 _ rfl]
 refine RL_float (fun W' h' => ?_) ?_
 ·simp
  have hs := (hWE.trans (agr_ext h')).size
  exact ⟨(Ext.refl _).alloc _,hs,Blk.new W' [.string ⟨#[]⟩,.nilFunc,.nilFunc,.nilFunc] 210⟩
 simp
 refine RL_loose fun W3 h3 => ?_
 simp
 refine FN.mono (kinds_c W3) ?_
 rintro _ W4 ⟨mr,rfl,hm,hE4⟩
 simp
 refine KR_ext hE4 ?_
 simp
 refine RL_loose fun W5 h5 => ?_
 simp [kd_none hm hk W5 h5]
 refine KR_same ?_
 simp
 refine RL_wait fun v6 W6 h6 ⟨j,hj,hjs,hjb⟩ => ?_
 subst hj
 simp [hjb.cell 0 _ rfl,hjb.cell 1 _ rfl,hjb.cell 2 _ rfl,hjb.cell 3 _ rfl,hjb.thaw,cell_setCell]
 have hM7 : Mod (fun i => i = j) W6 ((((W6.setCell ⟨j,0,none⟩ (.string ⟨#[]⟩)).setCell ⟨j,1,none⟩ .nilFunc).setCell ⟨j,2,none⟩ .nilFunc).setCell ⟨j,3,none⟩ .nilFunc) := ((((Mod.refl _ W6).setC 0 _).setC 1 _).setC 2 _).setC 3 _
 refine KR_mk (agr_any (hM7.weaken fun _ _ => trivial)) ?_
 have hE56 := hWE.trans (h3.trans (hE4.trans (h5.trans h6)))
 have hsz1 := hE1.size
 have hEw7 : Ext w ((((W6.setCell ⟨j,0,none⟩ (.string ⟨#[]⟩)).setCell ⟨j,1,none⟩ .nilFunc).setCell ⟨j,2,none⟩ .nilFunc).setCell ⟨j,3,none⟩ .nilFunc) := (((hE1.trans hE56).mod (S := fun j => w.heap.size ≤ j)).trans (hM7.weaken fun i hi => by omega)).ext fun _ h => h
 simp
 exact hEw7
def repF (r : Rec) : Bool := decide (nameE (namR r) = 0) && (decide (1 ≤ r.what) && (decide (r.what ≤ 4) && (decide (0 ≤ r.why) && (decide (r.why < 6) && (decide (r.what = 4) == decide (0 < r.why))))))
theorem rep_fine (r : Rec) : Fines 260 r (repF r) := by
 intro w
 refine FN_enter Tryz.func260 rfl rfl (by kernel_rfl) ?_
 simp
 have hE1 : Ext w (w.alloc (.cells #[i64 r.kind,u32 r.nn,u32 r.ns,u64 r.nt,u32 r.nq,i64 r.what,i64 r.why,u64 r.at',u64 r.num,u32 r.node,u32 r.reg,.bool r.yes,u64 r.fro,u64 r.til,u8 r.lev] 42)) := (Ext.refl w).alloc _
 have o1 : Blk (w.alloc (.cells #[i64 r.kind,u32 r.nn,u32 r.ns,u64 r.nt,u32 r.nq,i64 r.what,i64 r.why,u64 r.at',u64 r.num,u32 r.node,u32 r.reg,.bool r.yes,u64 r.fro,u64 r.til,u8 r.lev] 42)) w.heap.size (recC r) := Blk.new w (recC r) 42
 generalize (w.alloc (.cells #[i64 r.kind,u32 r.nn,u32 r.ns,u64 r.nt,u32 r.nq,i64 r.what,i64 r.why,u64 r.at',u64 r.num,u32 r.node,u32 r.reg,.bool r.yes,u64 r.fro,u64 r.til,u8 r.lev] 42)) = w1 at *
 refine FN.mono (checkName_c (namR r) w1) ?_
 rintro _ w2 ⟨rfl,hE2⟩
 have p := o1.ext hE2
 have hX := hE1.trans hE2
 unfold repF
 by_cases g1 : nameE (namR r) = 0
 ·by_cases g2 : 1 ≤ r.what
  ·by_cases g3 : r.what ≤ 4
   ·by_cases g4 : 0 ≤ r.why
    ·by_cases g5 : r.why < 6
     ·by_cases g6 : r.what = 4
      ·by_cases g7 : 0 < r.why <;> simp [g1,g4,g5,g6,g7,p.cell 5 _ rfl,p.cell 6 _ rfl] <;> exact hX
      ·by_cases g7 : 0 < r.why <;> simp [beq_dec,g1,g2,g3,g4,g5,g6,g7,p.cell 5 _ rfl,p.cell 6 _ rfl] <;> exact hX
     ·simp [g1,g2,g3,g4,g5,p.cell 5 _ rfl,p.cell 6 _ rfl]; exact hX
    ·simp [g1,g2,g3,g4,p.cell 5 _ rfl,p.cell 6 _ rfl]; exact hX
   ·simp [g1,g2,g3,p.cell 5 _ rfl]; exact hX
  ·simp [g1,g2,p.cell 5 _ rfl]; exact hX
 ·simp [beq_dec,g1]; exact hX
end Go.Proofs
namespace Go.Proofs
open Pk
set_option maxRecDepth 10000
def repB (r : Rec) : Rec := { rec0 with kind := r.kind,nn := r.nn,ns := r.ns,nt := r.nt,nq := r.nq,what := r.what,why := r.why,at' := r.at' }
def askBr (r : Rec) : Rec := { rec0 with kind := r.kind,num := r.num,node := r.node,reg := r.reg }
def memB (r : Rec) : Rec := { rec0 with kind := r.kind,num := r.num,node := r.node,reg := r.reg,yes := r.yes }
theorem upI_cons {x : It} {l : List It} {bd : Int} (h1 : x.k = 1) (h2 : x.n ≤ bd) : upI (x :: l) bd = some (x.n,l) := if_pos ⟨h1,h2⟩
theorem yesI_cons (u : Bool) (l : List It) : yesI (boolI u :: l) = some (u, l) := by
 unfold yesI boolI
 cases u <;> rfl
theorem rdAsk_I {r r0 : Rec} (hr : RecOk r) (h : r.num ≤ 4294967295) : rdAsk r0 (askI r) = some ({ r0 with num := r.num, node := r.node, reg := r.reg }, []) := by
 unfold rdAsk askI
 rw [upI_cons rfl (show (uintI r.num).n ≤ _ from h),Option.bind_some,upI_cons rfl (show (uintI r.node).n ≤ _ from hr.node.2),Option.bind_some,upI_cons rfl (show (uintI r.reg).n ≤ _ from hr.reg.2),Option.bind_some]
 rfl
theorem rdMem_I {r r0 : Rec} (hr : RecOk r) (h : r.num ≤ 4294967295) : rdMem r0 (memI r) = some ({ r0 with node := r.node, reg := r.reg, num := r.num, yes := r.yes }, []) := by
 unfold rdMem memI
 rw [upI_cons rfl (show (uintI r.node).n ≤ _ from hr.node.2),Option.bind_some,upI_cons rfl (show (uintI r.reg).n ≤ _ from hr.reg.2),Option.bind_some,upI_cons rfl (show (uintI r.num).n ≤ _ from h),Option.bind_some,yesI_cons,Option.bind_some]
 rfl
theorem rdTell_I {r r0 : Rec} (hr : RecOk r) (h : r.num ≤ 4294967295) (ht : r.til ≤ 4611686018427387903) : rdTell r0 (tellI r) = some ({ r0 with num := r.num, node := r.node, reg := r.reg, yes := r.yes, til := r.til }, []) := by
 unfold rdTell tellI
 rw [upI_cons rfl (show (uintI r.num).n ≤ _ from h),Option.bind_some,upI_cons rfl (show (uintI r.node).n ≤ _ from hr.node.2),Option.bind_some,upI_cons rfl (show (uintI r.reg).n ≤ _ from hr.reg.2),Option.bind_some,yesI_cons,Option.bind_some,upI_cons rfl (show (uintI r.til).n ≤ _ from ht),Option.bind_some]
 rfl
theorem rdFore_I {r r0 : Rec} (hr : RecOk r) (hf : r.fro ≤ 4611686018427387903) (ht : r.til ≤ 4611686018427387903) (hl : r.lev ≤ 3) : rdFore r0 (foreI r) = some ({ r0 with node := r.node, fro := r.fro, til := r.til, lev := r.lev }, []) := by
 unfold rdFore foreI
 rw [upI_cons rfl (show (uintI r.node).n ≤ _ from hr.node.2),Option.bind_some,upI_cons rfl (show (uintI r.fro).n ≤ _ from hf),Option.bind_some,upI_cons rfl (show (uintI r.til).n ≤ _ from ht),Option.bind_some,upI_cons rfl (show (uintI r.lev).n ≤ _ from hl),Option.bind_some]
 rfl
theorem numsOf_nameI (n : Nam) (h : n.nn ≠ 0) : numsOf (nameI n) = [n.nt, n.nq, 2, n.nn, n.ns] := by
 unfold numsOf numsY nameI endI
 rw [if_neg h]
 simp [uintsOf,listI,uintI,It.k,It.l,It.n]
theorem namN_nameI (n : Nam) (hn : NamOk n) (h : n.nn ≠ 0) : namN (nameI n) = n := by
 unfold namN
 rw [numsOf_nameI n h]
 obtain ⟨a,b,c,d⟩ := n
 unfold namOfL
 have e1 := wrap32u a hn.nn.1 hn.nn.2
 have e2 := wrap32u b hn.ns.1 hn.ns.2
 have e3 := wrap32u d hn.nq.1 hn.nq.2
 simp [e1,e2,e3]
theorem namF_nameI (n : Nam) (hn : NamOk n) (h : nameE n = 0) : namF (nameI n) = true := by
 have h0 : n.nn ≠ 0 := by
  intro e
  unfold nameE at h
  rw [if_pos e] at h
  cases h
 unfold namF
 rw [namN_nameI n hn h0]
 simp [h]
theorem numsOf_nameI_len (n : Nam) (h : n.nn ≠ 0) : (numsOf (nameI n)).length ≤ 1000000 := by rw [numsOf_nameI n h]; simp
def fineR (r : Rec) : Bool := if r.kind = 1 then repF r else if r.kind = 4 then foreF r else decide (0 < min r.node r.reg)
def bareR (r : Rec) : Rec := if r.kind = 1 then repB r else if r.kind = 2 then askBr r else if r.kind = 3 then tellB r else if r.kind = 4 then foreB r else memB r
def partsR (r : Rec) : List It := if r.kind = 1 then repI r else if r.kind = 2 then askI r else if r.kind = 3 then tellI r else if r.kind = 4 then foreI r else memI r
def itemR (r : Rec) : It := listI (uintI r.kind :: partsR r)
def rightE (r : Rec) : Int := if 1 ≤ r.kind ∧ r.kind ≤ 5 then chk r (fineR r) (decide (bareR r = r)) else 2
theorem nn_leaf {l : List It} (h : ∀ x ∈ l, (∃ n, x = uintI n ∧ 0 ≤ n) ∨ ∃ u, x = boolI u) : ∀ y ∈ l, 0 ≤ y.n := by
 intro y hy
 rcases h y hy with ⟨n, rfl, hn⟩ | ⟨u, rfl⟩
 ·exact hn
 ·unfold boolI It.n; cases u <;> simp
theorem check_ask {r : Rec} (hr : RecOk r) (hk2 : r.kind = 2) (w : World) : FN Tryz.prog 148 [recV r] w fun e w' => e = .returned (i64 (chk r (decide (0 < min r.node r.reg)) (decide (askBr r = r)))) ∧ Ext w w' := by
 have hk : mget kdL r.kind = some [.string ⟨#[97,115,107]⟩,fnV 201,fnV 204,fnV 207] := by rw [hk2]; rfl
 refine check_t (fb := decide (0 < min r.node r.reg)) (bb := decide (askBr r = r)) hk (there_c r) (fun hf hn ht w => ?_) w
 have hf' := there_c (askBr r)
 have e : decide (0 < min (askBr r).node (askBr r).reg) = true := hf
 rw [e] at hf'
 refine bareI_c hk (by omega) (ask_layI hr) (by simp [askI]) (by simp [askI]) (nn_leaf (by simp [askI]; exact ⟨.inl ⟨_,rfl,hr.num.1⟩,.inl ⟨_,rfl,hr.node.1⟩,.inl ⟨_,rfl,hr.reg.1⟩⟩)) ?_ hf' w
 intro w0 w' b rb h hR hrb hne
 have := rdAsk_c h hR hrb hne
 rw [rdAsk_I hr (by omega)] at this
 exact this
theorem check_mem {r : Rec} (hr : RecOk r) (hk5 : r.kind = 5) (w : World) : FN Tryz.prog 148 [recV r] w fun e w' => e = .returned (i64 (chk r (decide (0 < min r.node r.reg)) (decide (memB r = r)))) ∧ Ext w w' := by
 have hk : mget kdL r.kind = some [.string ⟨#[109,101,109,98,101,114]⟩,fnV 219,fnV 220,fnV 207] := by rw [hk5]; rfl
 refine check_t (fb := decide (0 < min r.node r.reg)) (bb := decide (memB r = r)) hk (there_c r) (fun hf hn ht w => ?_) w
 have hf' := there_c (memB r)
 have e : decide (0 < min (memB r).node (memB r).reg) = true := hf
 rw [e] at hf'
 refine bareI_c hk (by omega) (mem_layI hr) (by simp [memI]) (by simp [memI]) (nn_leaf (by simp [memI]; exact ⟨.inl ⟨_,rfl,hr.node.1⟩,.inl ⟨_,rfl,hr.reg.1⟩,.inl ⟨_,rfl,hr.num.1⟩,.inr (by cases r.yes <;> simp)⟩)) ?_ hf' w
 intro w0 w' b rb h hR hrb hne
 have := rdMem_c h hR hrb hne
 rw [rdMem_I hr (by omega)] at this
 exact this
theorem repF_inv {r : Rec} (h : repF r = true) : nameE (namR r) = 0 ∧ 1 ≤ r.what ∧ r.what ≤ 4 ∧ 0 ≤ r.why ∧ r.why < 6 := by
 unfold repF at h
 simp only [Bool.and_eq_true,decide_eq_true_eq] at h
 exact ⟨h.1,h.2.1,h.2.2.1,h.2.2.2.1,h.2.2.2.2.1⟩
theorem nameE_inv {n : Nam} (h : nameE n = 0) : n.nn ≠ 0 ∧ n.nt ≤ 4611686018427387903 := by
 unfold nameE at h
 split at h
 ·cases h
 ·split at h
  ·cases h
  ·constructor <;> omega
theorem check_rep {r : Rec} (hr : RecOk r) (hk1 : r.kind = 1) (w : World) : FN Tryz.prog 148 [recV r] w fun e w' => e = .returned (i64 (chk r (repF r) (decide (repB r = r)))) ∧ Ext w w' := by
 have hk : mget kdL r.kind = some [.string ⟨#[114,101,112,111,114,116]⟩,fnV 254,fnV 257,fnV 260] := by rw [hk1]; rfl
 refine check_t (fb := repF r) (bb := decide (repB r = r)) hk (rep_fine r) (fun hf hn ht w => ?_) w
 have hf' := rep_fine (repB r)
 have e : repF (repB r) = true := hf
 rw [e] at hf'
 obtain ⟨i1,i2,i3,i4,i5⟩ := repF_inv hf
 obtain ⟨j1,j2⟩ := nameE_inv i1
 have hno : NamOk (namR r) := ⟨hr.nn,hr.ns,hr.nq⟩
 refine bareI_c hk (by omega) (rep_layI hr i1 (by omega) i4) (by simp [repI]) (by simp [repI]) ?_ ?_ hf' w
 ·intro y hy
  simp only [repI,List.mem_cons,List.not_mem_nil,or_false] at hy
  rcases hy with rfl | rfl | rfl | rfl
  ·simp [nameI,listI,It.n]
  ·exact (show 0 ≤ r.what by omega)
  ·exact i4
  ·exact hr.at'.1
 ·intro w0 w' b rb h hR hrb hne
  have := rdRep_t (r := { rec0 with kind := r.kind }) (x := nameI (namR r)) (l := [uintI r.what, uintI r.why, uintI r.at']) h hR hrb hne (namF_nameI _ hno i1) (numsOf_nameI_len _ j1)
   (upI_cons rfl (show (uintI r.what).n ≤ _ by exact i3)) (upI_cons rfl (show (uintI r.why).n ≤ _ from (show r.why ≤ 6 by omega))) (upI_cons rfl (show (uintI r.at').n ≤ _ from (times3 ht).1))
  rw [namN_nameI _ hno j1] at this
  exact this
theorem check_c {r : Rec} (hr : RecOk r) (w : World) : FN Tryz.prog 148 [recV r] w fun e w' => e = .returned (i64 (rightE r)) ∧ Ext w w' := by
 by_cases hk : 1 ≤ r.kind ∧ r.kind ≤ 5
 ·have hcase : r.kind = 1 ∨ r.kind = 2 ∨ r.kind = 3 ∨ r.kind = 4 ∨ r.kind = 5 := by omega
  unfold rightE
  rw [if_pos hk]
  unfold fineR bareR
  rcases hcase with h | h | h | h | h
  ·rw [if_pos h,if_pos h]; exact check_rep hr h w
  ·rw [if_neg (by omega),if_neg (by omega),if_neg (by omega),if_pos h]; exact check_ask hr h w
  ·rw [if_neg (by omega),if_neg (by omega),if_neg (by omega),if_neg (by omega),if_pos h]; exact check_tell hr h w
  ·rw [if_neg (by omega),if_pos h,if_neg (by omega),if_neg (by omega),if_neg (by omega),if_pos h]; exact check_fore hr h w
  ·rw [if_neg (by omega),if_neg (by omega),if_neg (by omega),if_neg (by omega),if_neg (by omega),if_neg (by omega)]; exact check_mem hr h w
 ·unfold rightE
  rw [if_neg hk]
  refine check_x ?_ w
  have h1 : ¬ r.kind = 1 := by omega
  have h2 : ¬ r.kind = 2 := by omega
  have h3 : ¬ r.kind = 3 := by omega
  have h4 : ¬ r.kind = 4 := by omega
  have h5 : ¬ r.kind = 5 := by omega
  simp only [mget,kdL,List.find?_cons,List.find?_nil]
  rw [decide_eq_false (fun e => h1 e.symm),decide_eq_false (fun e => h2 e.symm),decide_eq_false (fun e => h3 e.symm),decide_eq_false (fun e => h4 e.symm),decide_eq_false (fun e => h5 e.symm)]
  rfl
end Go.Proofs
namespace Go.Proofs
open Pk
set_option maxRecDepth 10000
attribute [local simp] beq_dec bne_dec prod_eta
theorem itC_kn {W : World} {t : It} {k n : Int} {bv : Value} {s : ByteArray} {lv : Value} (h : ItC W t [i64 k, u64 n, bv, .string s, lv]) : t.k = k ∧ t.n = n ∧ t.s = s := by
 obtain ⟨k',n',b',s',l'⟩ := t
 obtain ⟨bv',lv',css,hcs,-⟩ := itC_mk.1 h
 simp at hcs
 obtain ⟨rfl,rfl,rfl,rfl,rfl⟩ := hcs
 exact ⟨rfl,rfl,rfl⟩
theorem itC_form {W : World} {t : It} {cs : List Value} (h : ItC W t cs) : ∃ a m c a' m' c', cs = [i64 t.k, u64 t.n, .slice a m c, .string t.s, .slice a' m' c'] := by
 obtain ⟨k,n,b,s,l⟩ := t
 obtain ⟨bv,lv,css,rfl,-⟩ := itC_mk.1 h
 obtain ⟨⟨a,m,c,rfl⟩,⟨a',m',c',rfl⟩⟩ := itC_slices h
 exact ⟨_,_,_,_,_,_,rfl⟩
theorem itRow' {W : World} {v : Value} {l : List It} {css : List (List Value)} (h : SlB W 5 v l.length css.flatten) (hc : ItCs W l css) {i : Nat} (hi : i < l.length) :
  ∃ bv lv,css[i]? = some [i64 l[i].k,u64 l[i].n,bv,.string l[i].s,lv] ∧ ItC W l[i] [i64 l[i].k,u64 l[i].n,bv,.string l[i].s,lv] ∧ ItAt W v i l[i].k l[i].n bv l[i].s lv := by
 obtain ⟨k,n,bv,s,lv,h1,h2,h3⟩ := itRow h hc hi
 obtain ⟨rfl,rfl,rfl⟩ := itC_kn h2
 exact ⟨bv,lv,h1,h2,h3⟩
def wrM : List (Int × Nat) := [(1,277),(2,279),(3,281),(4,282),(5,284),(6,285)]
theorem kKind : KeyEq Tryz.prog 157 (Value.int .i64) := keyEq_int (by simp)
theorem twm : Tryz.prog.underlying 289 = some (.map 157 180) := by simp
theorem writes_c (w : World) : FN Tryz.prog 248 [] w fun e w' => ∃ r, e = .returned (.map (some r)) ∧ MapAt (Value.int .i64) fnV w' r wrM ∧ Ext w w' := by
 refine FN_enter Tryz.func248 rfl rfl (by kernel_rfl) ?_
 have ht := twm
 have m0 := MapAt.alloc0 (Value.int .i64) fnV w
 have hE0 : Ext w (w.alloc (.map #[] 0)) := (Ext.refl w).alloc _
 obtain ⟨a1,r1,m1,M1,-⟩ := m0.update (P := Tryz.prog) kKind ht 1 277
 obtain ⟨a2,r2,m2,M2,-⟩ := m1.update (P := Tryz.prog) kKind ht 2 279
 obtain ⟨a3,r3,m3,M3,-⟩ := m2.update (P := Tryz.prog) kKind ht 3 281
 obtain ⟨a4,r4,m4,M4,-⟩ := m3.update (P := Tryz.prog) kKind ht 4 282
 obtain ⟨a5,r5,m5,M5,-⟩ := m4.update (P := Tryz.prog) kKind ht 5 284
 obtain ⟨a6,r6,m6,M6,-⟩ := m5.update (P := Tryz.prog) kKind ht 6 285
 simp [r1,r2,r3,r4,r5,r6]
 refine ⟨m6,?_⟩
 have hM := M1.trans (M2.trans (M3.trans (M4.trans (M5.trans M6))))
 exact ((hE0.mod (S := fun k => w.heap.size ≤ k)).trans (hM.weaken fun k hk => by omega)).ext fun _ h => h
theorem must_c (e : Int) (w : World) : FN Tryz.prog 195 [.bool true, i64 e] w fun e w' => (∃ u, e = .returned u) ∧ w' = w := by
 refine FN_enter Tryz.func195 rfl rfl (by kernel_rfl) ?_
 simp
theorem runes_c (w : World) : FN Tryz.prog 249 [.string ⟨#[]⟩] w fun e w' => e = .returned (.tuple #[i64 0, .bool true]) ∧ Ext w w' := by
 refine FN_enter Tryz.func249 rfl rfl (by kernel_rfl) ?_
 have hr := run_range_string (P := Tryz.prog) w 9 ⟨#[]⟩ (by simp)
 have hn := run_next_end (P := Tryz.prog) w ⟨#[]⟩ 0 0 (by decide)
 simp [hr]
 refine WC_loop (fun k ρ ds w' => ρ 2 = i64 0 ∧ ρ 3 = .bool true ∧ ρ 9 = ptr w.heap.size ∧ ds = [] ∧ w' = w.iter ⟨#[]⟩ 0) 0 ⟨by simp,by simp,by simp,rfl,rfl⟩ ?_
 rintro k ρ ds w1 ⟨e2,e3,e9,rfl,rfl⟩
 simp [e2,e3,e9,hn]
 exact (Ext.refl w).alloc _
theorem vals_c {w : World} {a : Option Addr} {n c : Nat} : FN Tryz.prog 251 [.slice a n c] w fun e w' => ∃ b, e = .returned (.func (.func 287) #[] #[ptr b]) ∧ Var w' b (.slice a n c) ∧ Ext w w' ∧ w.heap.size ≤ b := by
 refine FN_enter Tryz.func251 rfl rfl (by kernel_rfl) ?_
 simp
 exact ⟨Var.new w _ _,(Ext.refl w).alloc _⟩
structure IC where
 k : Int
 n : Int
 a : Option Addr
 m : Nat
 c : Nat
 s : ByteArray
 a' : Option Addr
 m' : Nat
 c' : Nat
abbrev IC.cs (x : IC) : List Value := [i64 x.k,u64 x.n,.slice x.a x.m x.c,.string x.s,.slice x.a' x.m' x.c']
theorem itPs_ic {Pd : Nat → Prop} {W : World} : ∀ {l : List It} {css : List (List Value)}, ItPs Pd W l css → ∃ xs : List IC, css = xs.map IC.cs ∧ xs.length = l.length
 | [],css,h => by rw [ItPs] at h; subst h; exact ⟨[],rfl,rfl⟩
 | x :: l, css, h => by
  rw [ItPs] at h
  obtain ⟨c,r,rfl,h1,h2⟩ := h
  obtain ⟨xs,rfl,h3⟩ := itPs_ic h2
  obtain ⟨a,m,c',a',m',c'',rfl⟩ := itC_form h1.any
  exact ⟨⟨x.k,x.n,a,m,c',x.s,a',m',c''⟩ :: xs,rfl,by simp [h3]⟩
theorem vals_it {w : World} {b : Nat} {v : Value} {xs : List IC} (v1 : Var w b v) (hm : SlB w 5 v xs.length (xs.flatMap IC.cs)) (hbd : xs.length ≤ 9223372036854775807) :
  Iter Tryz.prog (.func (.func 287) #[] #[ptr b]) (fun x : IC => [.agg x.cs.toArray]) (· = xs) (fun pre => pre ≠ [] ∧ ∃ suf,xs = pre ++ suf) (fun k => k = b ∨ (xs ≠ [] ∧ k = slB v)) w := by
 intro y C0 J Jx W hA hcap hC0 hJ hJx hyl h0
 have k1 := hcap b (.inl rfl)
 have v1W := v1.agr hA k1.1
 have hmW : SlB W 5 v xs.length (xs.flatMap IC.cs) := by
  by_cases hx : xs = []
  ·subst hx
   exact ⟨hm.len,hm.val,fun _ _ h => by simp at h⟩
  ·exact hm.agr hA fun _ => (hcap _ (.inr ⟨hx,rfl⟩)).1
 refine FN_enter Tryz.func287 rfl rfl (by kernel_rfl) ?_
 obtain ⟨a,c,hvs⟩ := hm.isSlice
 have hlen := fun ty W => hm.isLen (P := Tryz.prog) (t := 158) (by simp) ty W
 simp [v1W.cell,hlen]
 refine WC_loop (fun k ρ ds w' => ∃ (i : Nat) (C : Nat → Prop), k = xs.length - i ∧ i ≤ xs.length ∧ ρ 0 = y ∧ ρ 5 = v ∧ ρ 6 = i64 xs.length ∧ ρ 7 = i64 i ∧ ds = [] ∧ J C (xs.take i) w' ∧
  (∀ k,C k → C0 k ∨ W.heap.size ≤ k) ∧ Agr (fun k => k < W.heap.size ∧ ¬ C0 k) W w') xs.length ⟨0,C0,by simp,by simp,by simp,by simp,by simp,by simp,rfl,h0,fun k h => .inl h,Agr.refl _ _⟩ ?_
 rintro k ρ ds w3 ⟨i,C,rfl,hi,e0,e5,e6,e7,rfl,hj,hC,hAg⟩
 by_cases hlt : i < xs.length
 ·have hs3 : SlB w3 5 v xs.length (xs.flatMap IC.cs) := hmW.agr hAg (fun _ => by
   have := hcap _ (.inr ⟨(fun e => by rw [e] at hlt; simp at hlt),rfl⟩)
   exact ⟨by have := hA.size; omega,this.2⟩)
  have hq := List.getElem?_eq_getElem hlt
  have d := fun (j : Nat) (u : Value) (hj : j < 5) (e : (xs[i].cs)[j]? = some u) => hs3.at_ (i * 5 + j) u ((flat_at IC.cs (fun _ => rfl) xs i j xs[i] hq hj).trans e)
  simp only [← Nat.add_assoc] at d
  have d0 := d 0 _ (by omega) rfl
  have d1 := d 1 _ (by omega) rfl
  have d2 := d 2 _ (by omega) rfl
  have d3 := d 3 _ (by omega) rfl
  have d4 := d 4 _ (by omega) rfl
  simp only [Nat.add_zero] at d0
  have ix := hs3.index (P := Tryz.prog) (t := 158) (by simp) .i64 i (by omega) (by omega) w3
  simp at ix
  have hsp : (xs.take i ++ [xs[i]]) ≠ [] ∧ ∃ suf,xs = (xs.take i ++ [xs[i]]) ++ suf := ⟨List.append_ne_nil_of_right_ne_nil _ (by simp),xs.drop (i + 1),by rw [List.append_assoc,List.singleton_append,← List.drop_eq_getElem_cons hlt,List.take_append_drop]⟩
  have htk : xs.take (i + 1) = xs.take i ++ [xs[i]] := by rw [List.take_add_one,hq]; rfl
  simp [e0,e5,e6,e7,hlt,ix,d0,d1,d2,d3,d4]
  have hE4 := (Ext.refl w3).alloc (.cells xs[i].cs.toArray 160)
  have hj4 := hJ _ _ _ _ hj hE4.agr
  refine CV.mono (hyl C (xs.take i) xs[i] _ hsp hj4) ?_
  rintro _ w4 (⟨rfl, C', hj', hown⟩ | ⟨rfl, C', hj', hown⟩)
  ·have hAg' : Agr (fun k => k < W.heap.size ∧ ¬ C0 k) w3 w4 := hE4.agr.trans (hown.mod.agr (S' := fun k => k < W.heap.size ∧ ¬ C0 k) (fun k hk hc => by rcases hC k hc with h | h; exact hk.2 h; omega))
   simp [e0,e5,e6,e7]
   refine ⟨xs.length - (i + 1),by omega,i + 1,rfl,by omega,by rw [wrap64 _ (by omega) (by omega)]; rfl,C',by rw [htk]; exact hj',?_,hAg.trans hAg'⟩
   intro k hk
   rcases hown.own k hk with h | h
   ·exact hC k h
   ·exact .inr (Nat.le_trans hAg.size (Nat.le_trans hE4.size h))
  ·simp
   exact ⟨C',.inr ⟨_,hsp,hj'⟩⟩
 ·simp [e6,e7,hlt]
  have : i = xs.length := by omega
  rw [this,List.take_length] at hj
  exact ⟨C,.inl hj⟩
end Go.Proofs