/- Calls whose answer the machine gives. -/
import Derived.Test.YtebmoofioikenaaGreatDoorHouO2
import Derived.Test.YtebmoofioikenaaGreatDoorHouE
open Go Go.Ai Go.Proofs
set_option maxRecDepth 100000
set_option Elab.async false
namespace Go.Ai.AwHou
theorem o6 : entOK (orO (oracle []) O2) AwHouK.FT 100000 AwHouE.e6 = true := by kernel_rfl
theorem k6 : Known (ckRel tt) Tryz.prog AwHouE.e6 := .of hT hm hFT (.nil) hO2 o6
theorem o7 : entOK (orO (oracle []) O2) AwHouK.FT 100000 AwHouE.e7 = true := by kernel_rfl
theorem k7 : Known (ckRel tt) Tryz.prog AwHouE.e7 := .of hT hm hFT (.nil) hO2 o7
theorem o8 : entOK (orO (oracle []) O2) AwHouK.FT 100000 AwHouE.e8 = true := by kernel_rfl
theorem k8 : Known (ckRel tt) Tryz.prog AwHouE.e8 := .of hT hm hFT (.nil) hO2 o8
end Go.Ai.AwHou
