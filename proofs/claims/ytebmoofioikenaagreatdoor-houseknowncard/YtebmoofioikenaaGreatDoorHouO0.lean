/- Calls whose answer the machine gives. -/
import Derived.Test.YtebmoofioikenaaGreatDoorHouC
import Derived.Test.YtebmoofioikenaaGreatDoorHouE
open Go Go.Ai Go.Proofs
set_option maxRecDepth 100000
set_option Elab.async false
namespace Go.Ai.AwHou
theorem o0 : entOK (orO (oracle []) O2) AwHouK.FT 100000 AwHouE.e0 = true := by kernel_rfl
theorem k0 : Known (ckRel tt) Tryz.prog AwHouE.e0 := .of hT hm hFT (.nil) hO2 o0
theorem o1 : entOK (orO (oracle [AwHouE.e0]) O2) AwHouK.FT 100000 AwHouE.e1 = true := by kernel_rfl
theorem k1 : Known (ckRel tt) Tryz.prog AwHouE.e1 := .of hT hm hFT (.cons k0 <| .nil) hO2 o1
end Go.Ai.AwHou
