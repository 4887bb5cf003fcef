/-
  Contracts of the functions that the law reaches,step by step.
-/
import Derived.Test.YtmmneeomcefgbaaGreatDoorScQ
import Derived.Test.YtmmneeomcefgbaaGreatDoorScV
namespace Go.Proofs
open Pk
set_option maxRecDepth 100000
/-! ### The chapter's rows,plain -/
theorem lineP_of {rd : Tx → Option (Int × (Trn → List Tx → Option (Trn × List Tx)))} {tl : Trn → Option (List Tx)} {t : Trn} {p : Tx × Int} {l : List Tx} {s : Tx} (h1 : findW t = some p) (h2 : layK tl t = some l) (h3 : joinW (p.1 :: l) = s) (h4 : turnP rd s = some t) : lineP rd tl t = some s := by
  unfold lineP
  rw [h1]
  simp only [h2,h3,h4]
  rw [if_pos ((sameT_eq t t).2 rfl)]
abbrev cr1 : Trn := { trn0 with kind := 13,node := 1,keep := [true,false] }
abbrev sd1 : Trn := { trn0 with kind := 3,node := 1,lton := 2,ltos := 7,lsvc := 7,life := 50,lim := 9,pay := [104,105] }
abbrev tick9 : Trn := { trn0 with kind := 12,n := 9 }
abbrev k8 : List Bool := [true,false,true,false,false,false,false,false]
abbrev crash2 : Trn := { trn0 with kind := 13,node := 2,keep := k8 }
abbrev sv1 : Trn := { trn0 with kind := 10,node := 1,to' := 2,fate := 0 }
abbrev lSv : Tx := [115,101,114,118,101,32,49,32,50,32,48]
abbrev lSv2 : Tx := [115,101,114,118,101,32,49,32,50]
abbrev lSv3 : Tx := [115,101,114,118,101,32,48,49,32,50,32,48]
abbrev lCr : Tx := [99,114,97,115,104,32,49,32,49,48]
abbrev lSd : Tx := [115,101,110,100,32,49,32,55,32,105,112,110,58,50,46,55,32,48,32,100,116,110,58,110,111,110,101,32,53,48,32,57,32,54,56,54,57]
abbrev lTi : Tx := [116,105,99,107,32,57]
abbrev lCr2 : Tx := [99,114,97,115,104,32,50,32,49,48,49,48,48,48,48,48]
theorem tp_sv : turnP rdW lSv = some sv1 := by kernel_rfl
theorem tp_sv2 : turnP rdW lSv2 = none := by kernel_rfl
theorem tp_sv3 : turnP rdW lSv3 = none := by kernel_rfl
theorem tp_cr : turnP rdW lCr = some cr1 := by kernel_rfl
theorem tp_sd : turnP rdW lSd = some sd1 := by kernel_rfl
theorem tp_ti : turnP rdW lTi = some tick9 := by kernel_rfl
theorem tp_cr2 : turnP rdW lCr2 = some crash2 := by kernel_rfl
theorem d0 : decI 0 = [48] := Lib.decDigits_one (by decide)
theorem d1 : decI 1 = [49] := Lib.decDigits_one (by decide)
theorem d2 : decI 2 = [50] := Lib.decDigits_one (by decide)
theorem d7 : decI 7 = [55] := Lib.decDigits_one (by decide)
theorem d9 : decI 9 = [57] := Lib.decDigits_one (by decide)
theorem c9 : capI m63 9 = some [57] := by unfold capI capT; rw [if_pos (by decide)]; exact congrArg some d9
theorem c50 : capI m63 50 = some [53,48] := by unfold capI capT; rw [if_pos (by decide)]; exact congrArg some (Lib.decDigits_two (by decide) (by decide))
theorem p27 : pointI 2 7 = some [105, 112, 110, 58, 50, 46, 55] := by
  unfold pointI pointP toldP
  rw [if_neg (by decide),if_neg (by decide),show Lib.decDigits (2 : Int).toNat = [50] from d2,show Lib.decDigits (7 : Int).toNat = [55] from d7]
  rfl
theorem p00 : pointI 0 0 = some [100,116,110,58,110,111,110,101] := rfl
theorem lp_cr (tl : Trn → Option (List Tx)) : lineP rdW tl cr1 = some lCr := lineP_of (p := ([99,114,97,115,104],13)) (l := [[49],[49,48]]) (by kernel_rfl) (by simp only [layK]; simp [lcrashP,d1,bitsO,bitT]) (by kernel_rfl) tp_cr
theorem lp_cr2 (tl : Trn → Option (List Tx)) : lineP rdW tl crash2 = some lCr2 := lineP_of (p := ([99,114,97,115,104],13)) (l := [[50],[49,48,49,48,48,48,48,48]]) (by kernel_rfl) (by simp only [layK]; simp [lcrashP,d2,bitsO,bitT]) (by kernel_rfl) tp_cr2
theorem lp_ti (tl : Trn → Option (List Tx)) : lineP rdW tl tick9 = some lTi := lineP_of (p := ([116,105,99,107],12)) (l := [[57]]) (by kernel_rfl) (by simp only [layK]; simp [ltickP,c9]) (by kernel_rfl) tp_ti
theorem lp_sd (tl : Trn → Option (List Tx)) : lineP rdW tl sd1 = some lSd := lineP_of (p := ([115,101,110,100],3)) (l := [[49],[55],[105,112,110,58,50,46,55],[48],[100,116,110,58,110,111,110,101],[53,48],[57],[54,56,54,57]]) (by kernel_rfl) (by simp only [layK]; simp [lsendP,d1,d7,d9,p27,c50]; kernel_rfl) (by kernel_rfl) tp_sd
end Go.Proofs
