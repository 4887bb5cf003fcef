/-
 Contracts of the functions that the law reaches,step by step.
-/
import Derived.Test.YtmmneeomcefgbaaGreatDoorRows
import Derived.Test.YtmmneeomcefgbaaGreatDoorCards
import Derived.Test.YtmmneeomcefgbaaGreatDoorTie
import Derived.ProofKit
import Derived.OpenShut
import Derived.JoinedOf
import Derived.Handed
import Derived.Test.YtmmneeomcefgbaaGreatDoorOpT
import Derived.Test.YtmmneeomcefgbaaGreatDoorOpS
import Derived.Test.YtmmneeomcefgbaaGreatDoorHoB
namespace Go.Proofs.YtmmneeomcefgbaaGreatDoor
open Go Go.ChangeShapes Go.WideShapes Go.ChangeAt Go.RowKit Go.Deep Pk
set_option maxRecDepth 100000
theorem ScriptHolds_lifted (os : Os) (started : os.Started) (H : Type) (enc : TypeId × Value → H) :
  ReturnsInHanded {} Tryz.checked os 6 .any (fun w args => (Rows.scriptHoldsSpec.pre enc Tryz.prog Tryz.f6 [] false w args ∧ laidMetH Tryz.prog laidL w) ∧ sizedMet enc Tryz.prog Tryz.f6 (OpenSpec.ofChange Rows.scriptHoldsSpec) false w args)
   (Rows.scriptHoldsSpec.post enc Tryz.prog Tryz.f6 false true false false) := by
 refine returnsInHanded_of_change_and (C := Tryz.checked) (X := fun w _ => laidMetH Tryz.prog laidL w) (fun _ _ _ hh h => h.of_heap hh) Tryz.own started (by kernel_rfl) Tryz.func6
  (ChangeSpec.witness_at (enc := enc) (C := Tryz.checked) (os := os) (X := fun w _ => laidMetH Tryz.prog laidL w) false (laidWorld os) #[.agg #[.int .i64 0,.int .u32 0,.int .u32 0,.int .u64 0,.bool false,.int .u8 0,.int .u32 0,.int .u32 0,.int .u32 0,.int .u32 0,.int .u32 0,.int .u32 0,.int .u64 0,.int .u8 0,.slice Option.none 0 0,.int .u32 0,.int .u32 0,.int .u64 0,.int .u64 0,.int .u64 0,.int .u32 0,.int .u32 0,.int .u64 0,.int .u64 0,.int .u32 0,.int .u32 0,.int .u32 0,.bool false,.int .i64 0,.int .u32 0,.int .u32 0,.int .u64 0,.int .u32 0,.int .i64 0,.int .i64 0,.int .u64 0,.int .u64 0,.int .u32 0,.int .u32 0,.bool false,.int .u64 0,.int .u64 0,.int .u8 0,.slice Option.none 0 0],.agg #[.int .i64 0,.int .u32 0,.int .u32 0,.int .u64 0,.bool false,.int .u8 0,.int .u32 0,.int .u32 0,.int .u32 0,.int .u32 0,.int .u32 0,.int .u32 0,.int .u64 0,.int .u8 0,.slice Option.none 0 0,.int .u32 0,.int .u32 0,.int .u64 0,.int .u64 0,.int .u64 0,.int .u32 0,.int .u32 0,.int .u64 0,.int .u64 0,.int .u32 0,.int .u32 0,.int .u32 0,.bool false,.int .i64 0,.int .u32 0,.int .u32 0,.int .u64 0,.int .u32 0,.int .i64 0,.int .i64 0,.int .u64 0,.int .u64 0,.int .u32 0,.int .u32 0,.bool false,.int .u64 0,.int .u64 0,.int .u8 0,.slice Option.none 0 0]] 8 rfl (by kernel_rfl) (by kernel_rfl) (by kernel_rfl) (by kernel_rfl) (by kernel_rfl) (laid_met os _)) ?_
 intro W base args ds gs before hval0 hW _ _ hL _
 have hval : ∀ (j : Nat) t v,Tryz.f6.params[j]? = some t → args[j]? = some v → Value.okWide Tryz.prog W .any base t v := hval0
 have hW' := hW
 have hlt := fun p hp => hW.lt p hp
 obtain ⟨p,q,hA0,hV0,rfl,hfz,hnd⟩ := hW
 have hA : DataW.TrodAll enc Tryz.prog W 0 (fun _ => true) true Tryz.f6.params.toList args.toList ds p := hA0
 rw [Tryz.params6] at hA hval
 obtain ⟨v0,v1,d0,d1,p0,p1,rfl,rfl,rfl,h0,h1⟩ := trodAll_two hA
 obtain ⟨rfl,rfl⟩ := trodVars_none hV0
 obtain ⟨a,vp,vk,rfl,ha⟩ := open_turn (hval 0 45 v0 rfl rfl) h0
 obtain ⟨b,vp',vk',rfl,hb⟩ := open_turn (hval 1 45 v1 rfl rfl) h1
 obtain ⟨hG,h8⟩ := gl_of_laid hL
 refine Calls.mono (calls_of_FN Tryz.func6 rfl rfl (lawHolds_c ha hb hG h8)) fun e W' ⟨he,hw⟩ => ?_
 subst he
 have h0' := Below.trod Tryz.laidOut (by kernel_rfl) (by decide +kernel) h0 (below_of_ext hw) (fun x hx => hlt x (by simp [hx]))
 have h1' := Below.trod Tryz.laidOut (by kernel_rfl) (by decide +kernel) h1 (below_of_ext hw) (fun x hx => hlt x (by simp [hx]))
 have hargs := trodAll_mk2 h0' h1'
 refine ⟨_,rfl,_,[],_,[],_,[],hW',?_,hargs,rfl,kept_of_ext hw _,fun h => by cases h⟩
 exact trodAll_mk1 (shut_bool Tryz.underlying4)
end Go.Proofs.YtmmneeomcefgbaaGreatDoor