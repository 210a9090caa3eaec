/- Calls whose answer the machine gives. -/
import Derived.Test.YtebmoofioikenaaGreatDoorHouO0
import Derived.Test.YtebmoofioikenaaGreatDoorHouE
open Go Go.Ai Go.Proofs
set_option maxRecDepth 100000
set_option Elab.async false
namespace Go.Ai.AwHou
theorem o2 : entOK (orO (oracle []) O2) AwHouK.FT 100000 AwHouE.e2 = true := by kernel_rfl
theorem k2 : Known (ckRel tt) Tryz.prog AwHouE.e2 := .of hT hm hFT (.nil) hO2 o2
theorem o3 : entOK (orO (oracle []) O2) AwHouK.FT 100000 AwHouE.e3 = true := by kernel_rfl
theorem k3 : Known (ckRel tt) Tryz.prog AwHouE.e3 := .of hT hm hFT (.nil) hO2 o3
theorem o4 : entOK (orO (oracle []) O2) AwHouK.FT 100000 AwHouE.e4 = true := by kernel_rfl
theorem k4 : Known (ckRel tt) Tryz.prog AwHouE.e4 := .of hT hm hFT (.nil) hO2 o4
end Go.Ai.AwHou
